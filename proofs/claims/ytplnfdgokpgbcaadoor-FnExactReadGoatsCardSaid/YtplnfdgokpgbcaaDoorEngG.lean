/- The engine, texts 24 25 26 27 28. No conditions. -/
import Derived.Test.YtplnfdgokpgbcaaDoorEngF
import Derived.Shelf.GgSortFunc.InsertionK
import Derived.RangeFuncRecord
/- The engine, part 24: a row of one's own is sorted by the library, by the kit's contract. No conditions. -/
namespace Go.Eng
open Go Go.RowKit Go.Sort Go.Proofs
set_option linter.unusedSectionVars false
variable [Glob]
variable {P : Program} {Γ : Tab}

/-- A block is written, and others are made. -/
theorem After.setG {ρ : Rho} {M : List Blk} {w w' : World} (h : MRel ρ M w) {id : Nat} {b b' : Blk} {o' : Obj} (hid : M[id]? = some b) (hlv : b.live = true)
    (hb : BRel ρ (ρ id) (some o') b') (hlv' : b'.live = true) (hcl : ∀ vs, b' = .r vs → ∀ x ∈ vs, ∀ i ∈ x.ids, i < M.length) (hlt0 : ∀ id b, M[id]? = some b → b.live = true → (ρ id).blk < w.heap.size)
    (hw : w'.heap[(ρ id).blk]? = some o') (ho : ∀ k, k < w.heap.size → k ≠ (ρ id).blk → w'.heap[k]? = w.heap[k]?) (hs : w.heap.size ≤ w'.heap.size)
    (e1 : w'.os = w.os) (e2 : w'.tape = w.tape) (e3 : w'.output = w.output) : After ρ M (M.set id b') w w' ρ := by
  have hlt : id < M.length := (List.getElem?_eq_some_iff.1 hid).1
  have hlive : ∀ i, liveAt (M.set id b') i → liveAt M i := by
    rintro i ⟨c, hc, hv⟩
    rw [List.getElem?_set] at hc
    split at hc
    · rename_i e; subst e; exact ⟨b, hid, hlv⟩
    · exact ⟨c, hc, hv⟩
  refine ⟨fun _ _ => rfl, ⟨?_, fun i j hi hj he => h.inj i j (hlive i hi) (hlive j hj) he, ?_, ?_⟩, by simp, fun i _ hl => hlive i hl, fun i hi hl => by have := (hlive i hl).lt; omega, ?_, e1, e2, e3, by omega, ρ.le_refl, fun _ _ h => .inl h⟩
  · intro i c hc
    rw [List.getElem?_set] at hc
    split at hc
    · rename_i e
      subst e
      cases hc
      rw [hw]
      exact hb
    · rename_i hne
      have hold := h.blk i c hc
      by_cases hdead : c.live = true
      · rw [ho _ (hlt0 i c hc hdead) (fun e => hne (h.inj i id ⟨c, hc, hdead⟩ ⟨b, hid, hlv⟩ e).symm)]
        exact hold
      · cases c <;> first | trivial | (exact absurd rfl hdead)
  · intro i vs hc x hx j hj
    rw [List.length_set]
    rw [List.getElem?_set] at hc
    split at hc
    · cases hc
      exact hcl vs rfl x hx j hj
    · exact h.cl i vs hc x hx j hj
  · intro k o hk
    obtain ⟨g1, g2⟩ := h.env k o hk
    exact ⟨by rw [ho k (by have := (Array.getElem?_eq_some_iff.1 g1).1; omega) (fun e => g2 id ⟨b, hid, hlv⟩ e.symm)]; exact g1, fun i hi => g2 i (hlive i hi)⟩
  · intro k hk1 hk
    exact ho k hk1 (fun e => hk id ⟨b, hid, hlv⟩ e.symm)

/-- A row's cells. -/
abbrev RowT (σ : Sg) : Type := { r : List Int // r.length = σ.n ∧ cellsOk σ.flat r }
theorem zerosR_ok (ks : List CK) (n : Nat) : cellsOk ks (List.replicate n 0) := zeros_ok ks n
instance (σ : Sg) : Inhabited (RowT σ) := ⟨⟨List.replicate σ.n 0, List.length_replicate, zerosR_ok _ _⟩⟩
def encR (σ : Sg) (r : RowT σ) : List Value := cellsV σ.flat r.1
theorem encR_len {σ : Sg} (hp : σ.pure = true) (r : RowT σ) : (encR σ r).length = σ.n := by
  unfold encR
  rw [cellsV_len _ _ (by rw [Sg.flat_len σ hp]; exact r.2.1.symm)]
  exact r.2.1

/-- A row sorted. -/
def sortL (cf : List Int → List Int → Int) (rows : List (List Int)) : List (List Int) := rows.mergeSort fun x y => !decide (cf y x < 0)
def sortS (σ : Sg) (e : TypeId) (g : FuncId) (cf : List Int → List Int → Int) : Fun
  | [.ow 0 n σ' e', .fn g' []], [.l τ rows] => if σ' = σ ∧ τ = σ ∧ e' = e ∧ g' = g then some (.any, [.l σ (sortL cf rows)], [n = rows.length ∧ n ≤ 1000000000]) else .none
  | _, _ => .none

theorem mem_flat {C : Array Value} {σ : Sg} {rows : List (List Int)} (h : rowsAt C σ 0 rows) (hp : σ.pure = true) : ∀ r ∈ rows, r.length = σ.n ∧ cellsOk σ.flat r := by
  intro r hr
  obtain ⟨i, hi, rfl⟩ := List.mem_iff_getElem.1 hr
  obtain ⟨h1, h2⟩ := h i _ (List.getElem?_eq_getElem hi)
  refine ⟨h1, ?_⟩
  have key : ∀ (ks : List CK) (ys : List Int), (∀ (j : Nat) (y : Int) (k : CK), ys[j]? = some y → ks[j]? = some k → k.ok y) → cellsOk ks ys := by
    intro ks
    induction ks with
    | nil => intro ys _; cases ys <;> trivial
    | cons k ks ih =>
      intro ys hy
      cases ys with
      | nil => trivial
      | cons y ys => exact ⟨hy 0 y k rfl rfl, ih ys fun j y k h h' => hy (j + 1) y k h h'⟩
  refine key _ _ fun j y k hj hk => ?_
  have := (h2 j y hj).2
  rwa [List.getD_eq_getElem?_getD, hk] at this

theorem merge_val {α β : Type} (f : α → β) (le : β → β → Bool) (l : List α) : (l.mergeSort fun x y => le (f x) (f y)).map f = (l.map f).mergeSort le := by
  rw [List.map_mergeSort]
  intro a _ b _
  rfl

theorem flatK_get (σ : Sg) (hp : σ.pure = true) (d : Array (RowT σ)) (i j : Nat) (hi : i < d.size) (hj : j < σ.n) :
    (flatK (encR σ) σ.n d)[i * σ.n + j]! = (encR σ d[i]!)[j]! := by
  have h0 : 0 < σ.n := by omega
  have hlt : i * σ.n + j < d.size * σ.n := by
    have : i * σ.n + σ.n ≤ d.size * σ.n := by rw [← Nat.succ_mul]; exact Nat.mul_le_mul_right _ hi
    omega
  have e1 : (i * σ.n + j) / σ.n = i := by rw [Nat.mul_comm, Nat.mul_add_div h0, Nat.div_eq_of_lt hj, Nat.add_zero]
  have e2 : (i * σ.n + j) % σ.n = j := by rw [Nat.mul_comm, Nat.mul_add_mod, Nat.mod_eq_of_lt hj]
  rw [get_flatK _ _ _ _ hlt, e1, e2]

theorem sort_sound {f g : FuncId} {σ : Sg} {e : TypeId} {cf : List Int → List Int → Int} (hp : σ.pure = true) (hn : 0 < σ.n)
    (hC : ∀ (blk cap : Nat) (d : Array (RowT σ)) (w : World), HoldsK (encR σ) σ.n w blk 0 d → blk < w.heap.size → d.size < 4611686018427387904 →
      Calls P f #[.slice (some ⟨blk, 0, none⟩) d.size cap, .func (.func g) #[] #[]] w fun e w' => e = .returned (.tuple #[]) ∧ ∃ n os, w' = sortWorldK (encR σ) σ.n w blk 0 n (d.toList.mergeSort fun x y => !decide (cf y.1 x.1 < 0)).toArray os) :
    Sound P f (sortS σ e g cf) := by
  intro args M r M' vs h hvs
  unfold sortS at h
  split at h
  case h_2 => cases h
  rename_i n σ' e' g' τ rows
  split at h
  case isFalse => cases h
  rename_i hc
  obtain ⟨rfl, rfl, rfl, rfl⟩ := hc
  cases h
  obtain ⟨⟨rfl, hbd⟩, -⟩ := hvs
  intro ρ vals w hD hM hid
  match vals, hD with
  | [v, u], ⟨hv, hu, _⟩ =>
  obtain ⟨cap, rfl, q1, q2, q3, q4, q5, q6, q7⟩ := hv
  obtain ⟨rfl, -⟩ := hu
  obtain ⟨C, c1, c2, c3, c4, c5, c6, c7, c8⟩ := hM.blk 0 _ rfl
  have hok := mem_flat c8 hp
  have hfl := Sg.flat_len _ hp
  let d : Array (RowT τ) := (rows.attach.map fun r => (⟨r.1, hok r.1 r.2⟩ : RowT τ)).toArray
  have hds : d.size = rows.length := by simp [d]
  have hdl : d.toList.map (·.1) = rows := by simp [d, List.map_attach_eq_pmap]
  have hdg : ∀ i, i < rows.length → (d[i]!).1 = rows.getD i [] := by
    intro i hi
    rw [getElem!_pos d i (by omega)]
    have : (d.toList.map (·.1))[i]? = rows[i]? := by rw [hdl]
    rw [List.getElem?_map, Array.getElem?_toList, Array.getElem?_eq_getElem (by omega), Option.map_some] at this
    rw [List.getD_eq_getElem?_getD, ← this]; rfl
  have hblk : (ρ 0).blk < w.heap.size := (Array.getElem?_eq_some_iff.1 c1).1
  have enc_get : ∀ (x : RowT τ) (j : Nat), j < τ.n → (encR τ x)[j]! = (τ.flat.getD j .bool).val (x.1.getD j 0) := by
    intro x j hj
    have hl := encR_len hp x
    rw [getElem!_pos _ j (by omega)]
    have e1 : x.1[j]? = some (x.1.getD j 0) := by rw [List.getD_eq_getElem?_getD, List.getElem?_eq_getElem (by rw [x.2.1]; exact hj)]; rfl
    have e2 : τ.flat[j]? = some (τ.flat.getD j .bool) := by rw [List.getD_eq_getElem?_getD, List.getElem?_eq_getElem (by omega)]; rfl
    have := cellsV_get _ _ _ _ _ e1 e2
    exact (List.getElem?_eq_some_iff.1 this).2
  have hH : HoldsK (encR τ) τ.n w (ρ 0).blk 0 d := by
    intro t ht
    rw [size_flatK, hds] at ht
    obtain ⟨i, j, hi, hj, rfl⟩ : ∃ i j, i < rows.length ∧ j < τ.n ∧ t = i * τ.n + j := ⟨t / τ.n, t % τ.n, by rw [Nat.div_lt_iff_lt_mul hn]; exact ht, Nat.mod_lt _ hn, by rw [Nat.mul_comm]; exact (Nat.div_add_mod _ _).symm⟩
    rw [flatK_get τ hp d i j (by omega) hj, enc_get _ _ hj, hdg i hi]
    obtain ⟨r1, r2⟩ := c8 i _ (getD_some hi [])
    obtain ⟨s1, s2⟩ := r2 j ((rows.getD i []).getD j 0) (by rw [List.getD_eq_getElem?_getD (l := rows.getD i []), List.getElem?_eq_getElem (by omega)]; rfl)
    rw [Nat.zero_add] at s1
    rw [Nat.zero_add]
    exact ⟨by rw [cell_of_row w _ _ C _ _ c1]; exact s1, by simp [World.frozen?, c1]⟩
  have hcall := hC (ρ 0).blk cap d w hH hblk (by omega)
  rw [hds] at hcall
  refine hcall.mono ?_
  rintro ex w' ⟨rfl, m, os, rfl⟩
  refine ⟨_, ρ, rfl, trivial, ?_, fun i hi => (by simp [AV.ids] at hi)⟩
  let d' : Array (RowT τ) := (d.toList.mergeSort fun x y => !decide (cf y.1 x.1 < 0)).toArray
  have hd' : d'.toList.map (·.1) = sortL cf rows := by
    show (d.toList.mergeSort fun x y => !decide (cf y.1 x.1 < 0)).map (·.1) = _
    rw [merge_val (f := fun x : RowT τ => x.1) (le := fun x y => !decide (cf y x < 0)), hdl]; rfl
  have hd's : d'.size = rows.length := by
    have h1 := congrArg List.length hd'
    have h2 : (sortL cf rows).length = rows.length := List.length_mergeSort _
    rw [List.length_map, h2, Array.length_toList] at h1
    exact h1
  have hdg' : ∀ i, i < rows.length → (d'[i]!).1 = (sortL cf rows).getD i [] := by
    intro i hi
    rw [getElem!_pos d' i (by omega)]
    have : (d'.toList.map (·.1))[i]? = (sortL cf rows)[i]? := by rw [hd']
    rw [List.getElem?_map, Array.getElem?_toList, Array.getElem?_eq_getElem (by omega), Option.map_some] at this
    rw [List.getD_eq_getElem?_getD, ← this]; rfl
  have hslen : (sortL cf rows).length = rows.length := List.length_mergeSort _
  have hheap : ∀ k, k < w.heap.size → (sortWorldK (encR τ) τ.n w (ρ 0).blk 0 m d' os).heap[k]? = (w.heap.modify (ρ 0).blk (onCells (putCells id 0 (flatK (encR τ) τ.n d'))))[k]? := by
    intro k hk
    show ((w.heap.modify (ρ 0).blk _) ++ os)[k]? = _
    rw [Array.getElem?_append_left (by simpa using hk)]
  refine After.setG (id := 0) (o' := .cells (putCells id 0 (flatK (encR τ) τ.n d') C) (ρ 0).ty (0, 0)) (b := .l τ rows) (b' := .l τ (sortL cf rows)) hM rfl rfl ?_ rfl (fun vs e => by cases e) ?_ ?_ ?_ ?_ rfl rfl rfl
  · refine ⟨_, rfl, by simp [putCells, c2], c3, c4, c5, by rw [hslen]; exact c6, c7, fun i row hi => ?_⟩
    have hil : i < rows.length := by rw [← hslen]; exact (List.getElem?_eq_some_iff.1 hi).1
    have hrow : row = (d'[i]!).1 := by rw [hdg' i hil, List.getD_eq_getElem?_getD, hi]; rfl
    subst hrow
    refine ⟨(d'[i]!).2.1, fun j y hj => ?_⟩
    have hjl : j < τ.n := by rw [← (d'[i]!).2.1]; exact (List.getElem?_eq_some_iff.1 hj).1
    have hlt : i * τ.n + j < rows.length * τ.n := by
      have : i * τ.n + τ.n ≤ rows.length * τ.n := by rw [← Nat.succ_mul]; exact Nat.mul_le_mul_right _ hil
      omega
    have e2 : τ.flat[j]? = some (τ.flat.getD j .bool) := by rw [List.getD_eq_getElem?_getD, List.getElem?_eq_getElem (by omega)]; rfl
    refine ⟨?_, cellsOk_get _ _ _ _ _ (d'[i]!).2.2 hj e2⟩
    rw [Nat.zero_add]
    unfold putCells
    rw [Array.getElem?_mapIdx, Array.getElem?_eq_getElem (by rw [c2]; omega), Option.map_some, if_pos ⟨Nat.zero_le _, by rw [size_flatK, hd's]; omega⟩, Nat.sub_zero, flatK_get τ hp d' i j (by omega) hjl, enc_get _ _ hjl, List.getD_eq_getElem?_getD (l := (d'[i]!).1), hj]
    rfl
  · intro i b hb hl
    cases i with
    | zero => exact hblk
    | succ i => simp at hb
  · rw [hheap _ hblk, Array.getElem?_modify, if_pos rfl, c1]; rfl
  · intro k hk hne
    rw [hheap _ hk, Array.getElem?_modify, if_neg (fun e => hne e.symm)]
  · show w.heap.size ≤ ((w.heap.modify (ρ 0).blk _) ++ os).size
    simp

/-- A call that sees nothing of ours: memory below stays. -/
theorem After.quiet {ρ : Rho} {w w' : World} (hM : MRel ρ [] w) (h : Below w.heap.size w w') : After ρ [] [] w w' ρ where
  ext := fun _ _ => rfl
  rel := ⟨fun _ _ h => (by simp at h), fun _ _ h => by have := h.lt; simp at this, fun _ _ h => (by simp at h), fun k o hk => ⟨by
    have g := (hM.env k o hk).1
    rw [h.block k (Array.getElem?_eq_some_iff.1 g).1]; exact g, fun i hi => by have := hi.lt; simp at this⟩⟩
  len := Nat.le_refl _
  dead := fun _ h => by simp at h
  fresh := fun _ _ h => by have := h.lt; simp at this
  frame := fun b hb _ => h.block b hb
  os := h.os
  tape := h.tape
  output := h.output
  size := h.size
  fmono := ρ.le_refl
  fnew := fun _ _ h => .inl h
/-- A call that writes nowhere below: what is ours stays. -/
theorem After.quietM {ρ : Rho} {M : List Blk} {w w' : World} (hM : MRel ρ M w) (h : Below w.heap.size w w') : After ρ M M w w' ρ where
  ext := fun _ _ => rfl
  rel := ⟨fun id b hb => by
      by_cases hl : b.live = true
      · rw [h.block _ (hM.blk_lt ⟨b, hb, hl⟩)]; exact hM.blk id b hb
      · cases b <;> first | trivial | (exact absurd rfl hl), hM.inj, hM.cl, fun k o hk => ⟨by
      have g := (hM.env k o hk).1
      rw [h.block k (Array.getElem?_eq_some_iff.1 g).1]; exact g, (hM.env k o hk).2⟩⟩
  len := Nat.le_refl _
  dead := fun _ _ h => h
  fresh := fun id hid hl => by have := hl.lt; omega
  frame := fun b hb _ => h.block b hb
  os := h.os
  tape := h.tape
  output := h.output
  size := h.size
  fmono := ρ.le_refl
  fnew := fun _ _ h => .inl h
end Go.Eng

/- The engine, part 25: a region in open order with one call that writes into what is older: the other operations look at no memory, the last one comes behind all. No conditions. -/
namespace Go.Eng
open Go Go.RowKit
set_option linter.unusedSectionVars false
variable [Glob]
variable {P : Program} {Γ : Tab}

/-- What an operation reads. -/
def opnds : Op → Option (List Operand)
  | .move x => some [x]
  | .assign x => some [x]
  | .convert _ _ x => some [x]
  | .fieldAddr _ x _ => some [x]
  | .indexAddr _ x i => some [x, i]
  | .nilCheck x => some [x]
  | .call c => match c.callee with
    | .value f => some (f :: c.args.toList)
    | _ => .none
  | _ => .none
theorem evO_opnds {wr : Bool} {tb : FuncId → Option Fun} {M : List Blk} {E E' : Operand → AV} {op : Op} {l : List Operand} (h : opnds op = some l) (he : ∀ x ∈ l, E x = E' x) : evO Γ wr tb M E op = evO Γ wr tb M E' op := by
  cases op <;> simp only [opnds, reduceCtorEq, Option.some.injEq] at h
  case move x => subst h; simp only [evO, evS, he x (by simp)]
  case assign x => subst h; simp only [evO, evS, he x (by simp)]
  case convert s t x => subst h; simp only [evO, evS, he x (by simp)]
  case fieldAddr t x f => subst h; simp only [evO, evS, he x (by simp)]
  case indexAddr t x i => subst h; simp only [evO, evS, he x (by simp), he i (by simp)]
  case nilCheck x => subst h; simp only [evO, evS, he x (by simp)]
  case call c =>
    split at h
    · rename_i f hc
      cases h
      have hm : c.args.toList.map E = c.args.toList.map E' := List.map_congr_left fun x hx => he x (List.mem_cons_of_mem _ hx)
      simp only [evO, evCallee, hc, he f (by simp), hm, evS]
    · cases h

theorem wrt_app_none {o : Oper} (ho : o.dst = .none) : ∀ (l : List Oper) (k : Nat) (t : Tmp), wrt (l ++ [o]) k t = wrt l k t
  | [], k, t => by simp [wrt, ho]
  | o' :: l, k, t => by
    simp only [List.cons_append, wrt]
    rw [wrt_app_none ho l (k + 1) t]

/-- Each operand stands ready once what comes ahead has been. -/
def okAt (body : List Oper) (bs : List Nat) (i : Nat) (o : Oper) : Bool :=
  o.guard.isNone && (match opnds o.op with
    | some l => l.all fun x => match x with
      | .tmp t => (match wrt body 0 t with
        | .none => true
        | some j => Nat.testBit (bs.getD i 0) j)
      | _ => true
    | .none => false)

theorem evA_same {body : List Oper} {bs : List Nat} {i : Nat} {o : Oper} (h : okAt body bs i o = true) {fr0 rs F G : List AV} {p : Nat → Bool} (hp : ∀ j, Nat.testBit (bs.getD i 0) j = true → p j = true)
    (hF : ∀ t, F.getD t .any = cont body fr0 rs p t) (hG : ∀ t, G.getD t .any = cont body fr0 rs (fun _ => true) t) {wr : Bool} {tb : FuncId → Option Fun} {M : List Blk} :
    evO Γ wr tb M (evA F) o.op = evO Γ wr tb M (evA G) o.op := by
  unfold okAt at h
  simp only [Bool.and_eq_true] at h
  obtain ⟨-, h⟩ := h
  split at h
  · rename_i l hl
    refine evO_opnds hl fun x hx => ?_
    have h1 := List.all_eq_true.1 h x hx
    cases x with
    | tmp t =>
      show F.getD t .any = G.getD t .any
      rw [hF, hG]
      unfold cont
      dsimp only at h1
      split at h1
      · rename_i hw; rw [hw]
      · rename_i j hw
        rw [hw]
        simp only [hp j h1]
    | const v => rfl
    | func f => rfl
    | global g => rfl
  · cases h

/-- The final frame, but for the last operation. -/
def finF (body : List Oper) (rs fr0 : List AV) : List AV := setAll body rs fr0

theorem regCall (H : TabOk P Γ) {tb : FuncId → Option Fun} (htb : TbOk P tb) {wr : Bool} {all : Array Oper} {body : List Oper} {last : Oper} {id c : Nat} {fr0 rs : List AV} {M0 M1 M2 : List Blk} {rl : AV} {a0 : Act} {w0 : World} {ρ0 : Rho}
    {Q : Exit → Act → World → Prop} (hall : all.toList = body ++ [last]) (hlast : last.dst = .none) (hlg : last.guard = .none) (honce : once body = true) (hback : backOk all.toList 0 = true) (hdst : dstOk fr0.length body = true) (hrs : rs.length = body.length)
    (hbits : allBits ((bef all.toList []).getD body.length 0) body.length = true) (hok : ∀ i o, body[i]? = some o → okAt body (bef all.toList []) i o = true)
    (hcl : c < body.length)
    (hblind : ∀ i o, body[i]? = some o → i ≠ c → (∃ vs, evO Γ wr tb M0 (evA (finF body rs fr0)) o.op = some (rs.getD i .any, M0, vs) ∧ allP vs) ∧ ∃ vs, evO Γ wr tb M1 (evA (finF body rs fr0)) o.op = some (rs.getD i .any, M1, vs) ∧ allP vs)
    (hcall : ∀ o, body[c]? = some o → ∃ vs, evO Γ wr tb M0 (evA (finF body rs fr0)) o.op = some (rs.getD c .any, M1, vs) ∧ allP vs)
    (hend : ∃ vs, evO Γ wr tb M1 (evA (finF body rs fr0)) last.op = some (rl, M2, vs) ∧ allP vs)
    (hF0 : FRel ρ0 M0.length fr0 a0) (hM0 : MRel ρ0 M0 w0)
    (K : ∀ a' w' ρ', After ρ0 M0 M2 w0 w' ρ' → FRel ρ' M2.length (finF body rs fr0) a' → a'.defers = a0.defers → Q .normal a' w') : (Code.region id all true).wp P Q a0 w0 := by
  have hsz : all.size = body.length + 1 := by rw [← Array.length_toList, hall]; simp
  have hget : ∀ i, i < body.length → all[i]? = body[i]? := fun i hi => by rw [← Array.getElem?_toList, hall, List.getElem?_append_left hi]
  have hgl : all[body.length]? = some last := by rw [← Array.getElem?_toList, hall, List.getElem?_append_right (Nat.le_refl _)]; simp
  have hfl : (finF body rs fr0).length = fr0.length := setAll_len _ _ _
  have hdst' : ∀ (i : Nat) (o : Oper) d, body[i]? = some o → o.dst = some d → d < fr0.length := fun i o d hi hd => by
    have := List.all_eq_true.1 hdst o (List.mem_of_getElem? hi)
    rw [hd] at this
    simpa using this
  have hG : ∀ t, (finF body rs fr0).getD t .any = cont body fr0 rs (fun _ => true) t := by
    intro t
    by_cases ht : t < fr0.length
    · unfold finF cont
      rw [setAll_get body rs fr0 t honce (by omega) ht]
      rfl
    · have h1 : (finF body rs fr0).getD t .any = .any := by rw [List.getD_eq_getElem?_getD, List.getElem?_eq_none (by omega)]; rfl
      rw [h1]
      unfold cont
      cases hw : wrt body 0 t with
      | none => dsimp only; rw [List.getD_eq_getElem?_getD, List.getElem?_eq_none (by omega)]; rfl
      | some j =>
        exfalso
        obtain ⟨-, o, ho, hd⟩ := wrt_some body 0 j t hw
        exact ht (hdst' _ o t ho hd)
  let Mt : Bool → List Blk := fun b => if b = true then M1 else M0
  let Inv : Array Bool → Act → World → Prop := fun listed a w => ∃ ρ F, After ρ0 M0 (Mt (listed.getD c false)) w0 w ρ ∧ FRel ρ (Mt (listed.getD c false)).length F a ∧ (∀ t, F.getD t .any = cont body fr0 rs (fun k => listed.getD k false) t) ∧
    F.length = fr0.length ∧ a.defers = a0.defers ∧ listed.size = all.size ∧ (∀ i, listed.getD i false = true → ∀ j, Nat.testBit ((bef all.toList []).getD i 0) j = true → listed.getD j false = true)
  refine wp_region_any H.mixed ?_
  have fin : ∀ (fuel : Nat) (listed : Array Bool) (a : Act) (w : World), listed.size = all.size → (∀ k, k < all.size → listed.getD k false = true) → Q .normal a w → wpAny P .any all Q fuel listed a w := by
    intro fuel listed a w hs hl hq
    have hrd := ready_all hs hl
    cases fuel with
    | zero => exact ⟨hrd, hq⟩
    | succ fuel => exact ⟨fun _ => hq, fun j hj => by rw [hrd] at hj; cases hj⟩
  have main : ∀ (fuel : Nat) (listed : Array Bool) (a : Act) (w : World), Inv listed a w → listed.getD body.length false = false → cnt all.size (fun k => listed.getD k false) ≤ fuel → wpAny P .any all Q fuel listed a w := by
    intro fuel
    induction fuel with
    | zero =>
      intro listed a w _ hnl hcn
      have := cnt_zero all.size (fun k => listed.getD k false) (by omega) body.length (by omega)
      rw [hnl] at this; cases this
    | succ fuel ih =>
      intro listed a w hI hnl hcn
      obtain ⟨ρ, F, hA, hF, hFc, hFl, hdf, hls, hclo⟩ := hI
      refine ⟨fun hn => ?_, fun i hi => ?_⟩
      · have := ready_nil hback hls hn body.length (by omega)
        rw [hnl] at this; cases this
      · obtain ⟨o, ho, hin, hun, hedges⟩ := ready_mem hi
        have hli : i < listed.size := by rw [hls]; exact hin
        have hun' : listed.getD i false = false := by
          rw [Array.getD_eq_getD_getElem?, Array.getElem?_eq_getElem hli] at hun ⊢
          exact hun
        have hset := listed_set (listed := listed) hli
        have hcn' : cnt all.size (fun k => (listed.setIfInBounds i true).getD k false) ≤ fuel := by
          have := cnt_set all.size i (fun k => listed.getD k false) (fun k => (listed.setIfInBounds i true).getD k false) hin hun' (fun k => listed_set hli k)
          omega
        have hpre : ∀ j, Nat.testBit ((bef all.toList []).getD i 0) j = true → listed.getD j false = true := by
          intro j hj
          obtain ⟨e, he, hb, h⟩ := bef_sound ho hj
          have hl := hedges e he hb
          rcases h with h | h
          · rw [← h]; exact hl
          · exact hclo e.on hl j h
        have hclo' : ∀ k, (listed.setIfInBounds i true).getD k false = true → ∀ j, Nat.testBit ((bef all.toList []).getD k 0) j = true → (listed.setIfInBounds i true).getD j false = true := by
          intro k hk j hj
          rw [hset] at hk ⊢
          rcases hk with hk | rfl
          · exact .inl (hclo k hk j hj)
          · exact .inl (hpre j hj)
        have hsz' : (listed.setIfInBounds i true).size = all.size := by simp [hls]
        by_cases hil : i = body.length
        · -- the last one
          subst hil
          rw [hgl] at ho
          cases ho
          have hall' : ∀ k, k < body.length → listed.getD k false = true := fun k hk => hpre k (allBits_get hbits hk)
          have hc1 : listed.getD c false = true := hall' c hcl
          rw [hc1] at hA hF
          have hFe : F = finF body rs fr0 := by
            apply List.ext_getElem?
            intro t
            by_cases ht : t < fr0.length
            · have h1 := hFc t
              have h2 := hG t
              have e : cont body fr0 rs (fun k => listed.getD k false) t = cont body fr0 rs (fun _ => true) t := by
                unfold cont
                cases hw : wrt body 0 t with
                | none => rfl
                | some j =>
                  obtain ⟨-, o', ho', -⟩ := wrt_some body 0 j t hw
                  have hj : j < body.length := by have := (List.getElem?_eq_some_iff.1 ho').1; simpa using this
                  simp only [hall' j hj]
              rw [e, ← h2] at h1
              rw [List.getD_eq_getElem?_getD, List.getD_eq_getElem?_getD, List.getElem?_eq_getElem (by omega), List.getElem?_eq_getElem (by omega)] at h1
              rw [List.getElem?_eq_getElem (by omega), List.getElem?_eq_getElem (by omega)]
              exact congrArg some h1
            · rw [List.getElem?_eq_none (by omega), List.getElem?_eq_none (by omega)]
          subst hFe
          obtain ⟨vs, hev, hvs⟩ := hend
          unfold wpOp
          rw [hgl]
          dsimp only
          have hwn : Region.wanted last (yielded all a.tmps) = true := by unfold Region.wanted; rw [hlg]
          rw [hwn]
          simp only [if_true]
          left
          refine evO_sound H htb (den_op hF) (ids_op hF) hA.rel hev hvs ?_
          intro v w' ρ1 hA1 _ _
          rw [hlast]
          refine fin _ _ _ _ hsz' (fun k hk => ?_) (K _ w' ρ1 (hA.trans hA1) (hF.ext hA1.fmono hA1.ext hA1.len) hdf)
          rw [hset]
          by_cases hkb : k = body.length
          · exact .inr hkb
          · exact .inl (hall' k (by omega))
        · have hib : i < body.length := by omega
          rw [hget i hib] at ho
          have hoa : all[i]? = some o := by rw [hget i hib]; exact ho
          have hoi := hok i o ho
          have hgn : o.guard = .none := by
            unfold okAt at hoi
            simp only [Bool.and_eq_true, Option.isNone_iff_eq_none] at hoi
            exact hoi.1
          have hev : ∃ vs, evO Γ wr tb (Mt (listed.getD c false)) (evA F) o.op = some (rs.getD i .any, Mt ((listed.setIfInBounds i true).getD c false), vs) ∧ allP vs := by
            rw [evA_same hoi hpre hFc hG]
            by_cases hic : i = c
            · subst hic
              have e2 : (listed.setIfInBounds i true).getD i false = true := (hset i).2 (.inr rfl)
              rw [hun', e2]
              exact hcall o ho
            · have e2 : (listed.setIfInBounds i true).getD c false = listed.getD c false := by
                rw [Bool.eq_iff_iff, hset]; exact ⟨fun h => h.resolve_right (fun e => hic e.symm), .inl⟩
              rw [e2]
              obtain ⟨h1, h2⟩ := hblind i o ho hic
              cases listed.getD c false with
              | true => exact h2
              | false => exact h1
          obtain ⟨vs, hev, hvs⟩ := hev
          unfold wpOp
          rw [hoa]
          dsimp only
          have hwn : Region.wanted o (yielded all a.tmps) = true := by unfold Region.wanted; rw [hgn]
          rw [hwn]
          simp only [if_true]
          left
          refine evO_sound H htb (den_op hF) (ids_op hF) hA.rel hev hvs ?_
          intro v w' ρ1 hA1 hd hid
          have hF1 := hF.ext hA1.fmono hA1.ext hA1.len
          refine ih _ _ w' ⟨ρ1, setO F o.dst (rs.getD i .any), hA.trans hA1, ?_, fun t => ?_, ?_, ?_, hsz', hclo'⟩ ?_ hcn'
          · exact hF1.put hd hid o.dst
          · cases hd' : o.dst with
            | none =>
              show F.getD t .any = _
              rw [hFc]
              unfold cont
              cases hw : wrt body 0 t with
              | none => rfl
              | some j =>
                dsimp only
                have hji : j ≠ i := by
                  rintro rfl
                  obtain ⟨-, o'', ho'', hd''⟩ := wrt_some body 0 j t hw
                  rw [Nat.sub_zero, ho] at ho''
                  cases ho''
                  rw [hd'] at hd''; cases hd''
                have : (listed.setIfInBounds i true).getD j false = listed.getD j false := by
                  rw [Bool.eq_iff_iff, hset]; exact ⟨fun h => h.resolve_right hji, .inl⟩
                by_cases h5 : listed.getD j false = true
                · rw [if_pos h5, if_pos (this.trans h5)]
                · rw [if_neg h5, if_neg (fun h => h5 (this.symm.trans h))]
            | some d =>
              have hdl := hdst' i o d ho hd'
              have hwd := wrt_once body 0 i o d honce ho hd'
              rw [Nat.zero_add] at hwd
              show (F.set d _).getD t .any = _
              rw [getD_set]
              by_cases hdt : d = t
              · subst hdt
                rw [if_pos ⟨rfl, by rw [hFl]; exact hdl⟩]
                unfold cont
                rw [hwd]
                dsimp only
                rw [if_pos ((hset i).2 (.inr rfl))]
              · rw [if_neg (fun h => hdt h.1), hFc]
                unfold cont
                cases hw : wrt body 0 t with
                | none => rfl
                | some j =>
                  dsimp only
                  have hji : j ≠ i := by
                    rintro rfl
                    obtain ⟨-, o'', ho'', hd''⟩ := wrt_some body 0 j t hw
                    rw [Nat.sub_zero, ho] at ho''
                    cases ho''
                    rw [hd'] at hd''
                    exact hdt (Option.some.inj hd'')
                  have : (listed.setIfInBounds i true).getD j false = listed.getD j false := by
                    rw [Bool.eq_iff_iff, hset]; exact ⟨fun h => h.resolve_right hji, .inl⟩
                  by_cases h5 : listed.getD j false = true
                  · rw [if_pos h5, if_pos (this.trans h5)]
                  · rw [if_neg h5, if_neg (fun h => h5 (this.symm.trans h))]
          · cases o.dst <;> simp [setO, hFl]
          · show (a.put o.dst v).defers = _
            cases o.dst <;> exact hdf
          · rw [Bool.eq_false_iff]
            intro h
            rw [hset] at h
            rcases h with h | h
            · rw [hnl] at h; cases h
            · exact hil h.symm
  have hrepl : ∀ k, (Array.replicate all.size false).getD k false = false := by
    intro k
    rw [Array.getD_eq_getD_getElem?, Array.getElem?_replicate]
    split <;> rfl
  have hcnt : ∀ (l : Array Bool), cnt all.size (fun k => l.getD k false) ≤ all.size := by
    intro l
    have : ∀ n (p : Nat → Bool), cnt n p ≤ n := by
      intro n p
      induction n with
      | zero => exact Nat.le_refl _
      | succ n ih => simp only [cnt]; split <;> omega
    exact this _ _
  refine main all.size _ a0 _ ⟨ρ0, fr0, ?_, ?_, fun t => ?_, rfl, rfl, by simp, fun i hi => ?_⟩ (hrepl _) (hcnt _)
  · rw [hrepl]
    have h := After.refl hM0
    exact ⟨h.ext, ⟨hM0.blk, hM0.inj, hM0.cl, hM0.env⟩, h.len, h.dead, h.fresh, h.frame, h.os, h.tape, h.output, h.size, h.fmono, h.fnew⟩
  · rw [hrepl]; exact hF0
  · unfold cont
    cases wrt body 0 t with
    | none => rfl
    | some j => dsimp only; rw [if_neg (by rw [hrepl]; decide)]
  · rw [hrepl] at hi; cases hi

/-- A body may stop ahead of such a region. -/
theorem Goes.regCall (H : TabOk P Γ) {tb : FuncId → Option Fun} (htb : TbOk P tb) {wr : Bool} {fn : FuncId} {m : Nat} {R : AV → List Blk → Prop} {all : Array Oper} {body : List Oper} {last : Oper} {id c : Nat} {k : List Item} {fr0 rs : List AV} {M0 M1 M2 : List Blk} {rl : AV}
    (hall : all.toList = body ++ [last]) (hlast : last.dst = .none) (hlg : last.guard = .none) (honce : once body = true) (hback : backOk all.toList 0 = true) (hdst : dstOk fr0.length body = true) (hrs : rs.length = body.length)
    (hbits : allBits ((bef all.toList []).getD body.length 0) body.length = true) (hok : ∀ i o, body[i]? = some o → okAt body (bef all.toList []) i o = true)
    (hcl : c < body.length)
    (hblind : ∀ i o, body[i]? = some o → i ≠ c → (∃ vs, evO Γ wr tb M0 (evA (finF body rs fr0)) o.op = some (rs.getD i .any, M0, vs) ∧ allP vs) ∧ ∃ vs, evO Γ wr tb M1 (evA (finF body rs fr0)) o.op = some (rs.getD i .any, M1, vs) ∧ allP vs)
    (hcall : ∀ o, body[c]? = some o → ∃ vs, evO Γ wr tb M0 (evA (finF body rs fr0)) o.op = some (rs.getD c .any, M1, vs) ∧ allP vs)
    (hend : ∃ vs, evO Γ wr tb M1 (evA (finF body rs fr0)) last.op = some (rl, M2, vs) ∧ allP vs)
    (g : Goes P fn m k (finF body rs fr0) M2 R) : Goes P fn m (.code (.region id all true) :: k) fr0 M0 R :=
  Goes.region (fun _ _ _ hF hM => Eng.regCall H htb hall hlast hlg honce hback hdst hrs hbits hok hcl hblind hcall hend hF hM fun _ _ ρ' h1 h2 h3 => ⟨rfl, ρ', h1, h2, h3⟩) g

/-- .. the last operation being the one behind n others. -/
theorem Goes.regCallN (H : TabOk P Γ) {tb : FuncId → Option Fun} (htb : TbOk P tb) (wr : Bool) (n c : Nat) {fn : FuncId} {m : Nat} {R : AV → List Blk → Prop} {all : Array Oper} {last : Oper} {id : Nat} {k : List Item} {fr0 : List AV} (rs : List AV) {M0 : List Blk} (M1 : List Blk) {M2 : List Blk} {rl : AV}
    (hd : all.toList.drop n = [last]) (hlast : last.dst = .none ∧ last.guard = .none) (hck : (once (all.toList.take n) && backOk all.toList 0 && dstOk fr0.length (all.toList.take n) && decide (rs.length = n) && decide (all.toList.length = n + 1) && allBits ((bef all.toList []).getD n 0) n && decide (c < n)) = true)
    (hok : ((List.range n).all fun i => match (all.toList.take n)[i]? with | some o => okAt (all.toList.take n) (bef all.toList []) i o | .none => false) = true)
    (hblind : ∀ i o, (all.toList.take n)[i]? = some o → i ≠ c → (∃ vs, evO Γ wr tb M0 (evA (finF (all.toList.take n) rs fr0)) o.op = some (rs.getD i .any, M0, vs) ∧ allP vs) ∧ ∃ vs, evO Γ wr tb M1 (evA (finF (all.toList.take n) rs fr0)) o.op = some (rs.getD i .any, M1, vs) ∧ allP vs)
    (hcall : ∀ o, (all.toList.take n)[c]? = some o → ∃ vs, evO Γ wr tb M0 (evA (finF (all.toList.take n) rs fr0)) o.op = some (rs.getD c .any, M1, vs) ∧ allP vs)
    (hend : ∃ vs, evO Γ wr tb M1 (evA (finF (all.toList.take n) rs fr0)) last.op = some (rl, M2, vs) ∧ allP vs)
    (g : Goes P fn m k (finF (all.toList.take n) rs fr0) M2 R) : Goes P fn m (.code (.region id all true) :: k) fr0 M0 R := by
  simp only [Bool.and_eq_true, decide_eq_true_eq] at hck
  obtain ⟨⟨⟨⟨⟨⟨h1, h2⟩, h3⟩, h4⟩, h5⟩, h6⟩, h7⟩ := hck
  have hl : (all.toList.take n).length = n := by rw [List.length_take]; omega
  refine Goes.regCall H htb (body := all.toList.take n) (last := last) (by rw [← hd, List.take_append_drop]) hlast.1 hlast.2 h1 h2 h3 (by rw [hl]; exact h4) (by rw [hl]; exact h6) (fun i o ho => ?_) (by rw [hl]; exact h7) hblind hcall hend g
  have hi : i < n := by have := (List.getElem?_eq_some_iff.1 ho).1; omega
  have := List.all_eq_true.1 hok i (List.mem_range.2 hi)
  rw [ho] at this
  exact this

/-- As the tree, but where a region in open order cannot be read, it stops ahead of it. -/
def treeS (P : Program) (Γ : Tab) (z wr : Bool) (tb : FuncId → Option Fun) (fn : FuncId) (m : Nat) (res : List ResultVar) (R : AV → List Blk → Prop) : Nat → List Item → List AV → List Blk → Option Prop
  | 0, _, _, _ => .none
  | n + 1, todo, fr, M => match todo with
    | [] => retT Γ z res R fr M
    | .inLoop c :: k => some (Lf (Goes P fn m (.code c :: .inLoop c :: k) fr M R))
    | .inBlock _ :: k => treeS P Γ z wr tb fn m res R n k fr M
    | .code c :: k => match c with
      | .ret => retT Γ z res R fr M
      | .loop c => some (Lf (Goes P fn m (.code c :: .inLoop c :: k) fr M R))
      | .skip => treeS P Γ z wr tb fn m res R n k fr M
      | .label _ => treeS P Γ z wr tb fn m res R n k fr M
      | .seq x y => treeS P Γ z wr tb fn m res R n (.code x :: .code y :: k) fr M
      | .block id c => treeS P Γ z wr tb fn m res R n (.code c :: .inBlock id :: k) fr M
      | .exit id => (match exitTo id k with
        | some k' => treeS P Γ z wr tb fn m res R n k' fr M
        | .none => .none)
      | .goto l => (match gotoIn l k with
        | some k' => treeS P Γ z wr tb fn m res R n k' fr M
        | .none => .none)
      | .cond x c d => condT fr (fun bit fr => match bit with
        | true => treeS P Γ z wr tb fn m res R n (.code c :: k) fr M
        | false => treeS P Γ z wr tb fn m res R n (.code d :: k) fr M) x
      | .region id ops true => some (Lf (Goes P fn m (.code (.region id ops true) :: k) fr M R))
      | .region _ ops false => evOpsT Γ wr tb ops ops.toList fr M fun fr M => treeS P Γ z wr tb fn m res R n k fr M
      | _ => .none
    | _ => .none

theorem treeS_sound (H : TabOk P Γ) {tb : FuncId → Option Fun} (htb : TbOk P tb) {z wr : Bool} {fn : FuncId} {m : Nat} {R : AV → List Blk → Prop} {f : Func} (hf : P.funcs[fn]? = some f) : ∀ (n : Nat) (todo : List Item) (fr : List AV) (M : List Blk) (Q : Prop),
    treeS P Γ z wr tb fn m f.results.toList R n todo fr M = some Q → Q → Goes P fn m todo fr M R := by
  intro n
  induction n with
  | zero => intro todo fr M Q h; cases h
  | succ n ih =>
    intro todo fr M Q h hQ
    unfold treeS at h
    split at h
    · exact (retT_sound H hf h hQ).2
    · cases h; exact hQ.get.step fun b a cs w => step_inLoop
    · exact (ih _ _ _ _ h hQ).step fun b a cs w => step_inBlock
    · split at h
      · exact (retT_sound H hf h hQ).1 _
      · cases h; exact hQ.get.step fun b a cs w => step_loop
      · exact (ih _ _ _ _ h hQ).step fun b a cs w => step_skip
      · exact (ih _ _ _ _ h hQ).step fun b a cs w => step_label
      · exact (ih _ _ _ _ h hQ).step fun b a cs w => step_seq
      · exact (ih _ _ _ _ h hQ).step fun b a cs w => step_block
      · split at h
        · rename_i he; exact (ih _ _ _ _ h hQ).step fun b a cs w => step_exit he
        · cases h
      · split at h
        · rename_i he; exact (ih _ _ _ _ h hQ).step fun b a cs w => step_goto he
        · cases h
      · obtain ⟨π1, bit, fr', v, h1, hv, Q', h2, hQ'⟩ := condT_some h hQ
        have h1' := h1 []
        refine Goes.cond h1' hv ?_
        cases bit
        · exact ih _ _ _ _ h2 hQ'
        · exact ih _ _ _ _ h2 hQ'
      · cases h; exact hQ.get
      · obtain ⟨π1, fr', M', v, h1, hv, Q', h2, hQ'⟩ := evOpsT_some _ _ _ _ h hQ
        have h1' := h1 []
        refine Goes.region (fun ρ a w hF hM => ?_) (ih _ _ _ _ h2 hQ')
        exact wp_region_list (evOps_sound H htb _ ρ fr M _ a w _ _ _ _ hF hM h1' hv fun a' w' ρ' g1 g2 g3 => ⟨rfl, ρ', g1, g2, g3⟩)
      · cases h
    · cases h
theorem Goes.treeS (H : TabOk P Γ) {tb : FuncId → Option Fun} (htb : TbOk P tb) (n : Nat) (z wr : Bool) {fn : FuncId} {m : Nat} {R : AV → List Blk → Prop} {f : Func} (hf : P.funcs[fn]? = some f) {todo : List Item} {fr : List AV} {M : List Blk} {Q : Prop}
    (h : Eng.treeS P Γ z wr tb fn m f.results.toList R n todo fr M = some Q) (hQ : Q) : Goes P fn m todo fr M R := treeS_sound H htb hf n _ _ _ _ h hQ

end Go.Eng

/- The engine, part 26: a body with very many slots: between regions only its first slots are kept. No conditions. -/
namespace Go.Eng
open Go Go.RowKit
set_option linter.unusedSectionVars false
variable [Glob]
variable {P : Program} {Γ : Tab}

def rdL (fr : List AV) : List (Nat × AV) → Nat → AV
  | [], t => fr.getD t .any
  | (u, v) :: δ, t => match Nat.beq u t with
    | true => v
    | false => rdL fr δ t
def rdN (N : Nat) (fr : List AV) (δ : List (Nat × AV)) (t : Nat) : AV :=
  match Nat.blt t N with
  | true => rdL fr δ t
  | false => .any
/-- The whole frame. -/
def vf (N : Nat) (fr : List AV) (δ : List (Nat × AV)) : List AV := (List.range N).map (rdL fr δ)
def pad (N : Nat) (fr : List AV) : List AV := fr ++ List.replicate (N - fr.length) .any

theorem blt_eq (t N : Nat) : Nat.blt t N = decide (t < N) := by
  by_cases h : t < N
  · rw [decide_eq_true h]; exact Nat.ble_eq_true_of_le h
  · rw [decide_eq_false h]
    cases e : Nat.blt t N
    · rfl
    · exact absurd (Nat.le_of_ble_eq_true e) h
theorem vf_len (N : Nat) (fr : List AV) (δ : List (Nat × AV)) : (vf N fr δ).length = N := by simp [vf]
theorem vf_get (N : Nat) (fr : List AV) (δ : List (Nat × AV)) (t : Nat) : (vf N fr δ).getD t .any = rdN N fr δ t := by
  unfold rdN vf
  rw [blt_eq, List.getD_eq_getElem?_getD, List.getElem?_map]
  by_cases h : t < N
  · rw [decide_eq_true h, List.getElem?_range h]; rfl
  · rw [decide_eq_false h, List.getElem?_eq_none (by simpa using h)]; rfl
theorem list_ext {l l' : List AV} (h : l.length = l'.length) (k : ∀ t, t < l.length → l.getD t .any = l'.getD t .any) : l = l' := by
  apply List.ext_getElem h
  intro i h1 h2
  have := k i h1
  rwa [List.getD_eq_getElem?_getD, List.getD_eq_getElem?_getD, List.getElem?_eq_getElem h1, List.getElem?_eq_getElem h2] at this
theorem beq_nat (u t : Nat) : Nat.beq u t = decide (u = t) := by
  by_cases h : u = t
  · subst h; rw [decide_eq_true rfl]; exact Nat.beq_refl u
  · rw [decide_eq_false h]
    cases e : Nat.beq u t
    · rfl
    · exact absurd (Nat.eq_of_beq_eq_true e) h
theorem vf_set (N : Nat) (fr : List AV) (δ : List (Nat × AV)) (t : Nat) (v : AV) : (vf N fr δ).set t v = vf N fr ((t, v) :: δ) := by
  apply list_ext (by rw [List.length_set, vf_len, vf_len])
  intro i hl
  rw [List.length_set, vf_len] at hl
  rw [vf_get, rdN, blt_eq, decide_eq_true hl, rdL, beq_nat]
  by_cases e : t = i
  · subst e
    rw [decide_eq_true rfl, List.getD_eq_getElem?_getD, List.getElem?_set_self (by rw [vf_len]; exact hl)]; rfl
  · rw [decide_eq_false e, List.getD_eq_getElem?_getD, List.getElem?_set_ne e, ← List.getD_eq_getElem?_getD, vf_get, rdN, blt_eq, decide_eq_true hl]
theorem vf_nil {N : Nat} {fr : List AV} (h : fr.length ≤ N) : vf N fr [] = pad N fr := by
  apply list_ext (by rw [vf_len, pad, List.length_append, List.length_replicate]; omega)
  intro i hl
  rw [vf_len] at hl
  rw [vf_get, rdN, blt_eq, decide_eq_true hl, rdL, pad, List.getD_eq_getElem?_getD, List.getD_eq_getElem?_getD]
  by_cases e : i < fr.length
  · rw [List.getElem?_append_left e]
  · rw [List.getElem?_append_right (by omega), List.getElem?_eq_none (by omega), List.getElem?_replicate]
    dsimp only
    split <;> rfl

def evAL (N : Nat) (fr : List AV) (δ : List (Nat × AV)) : Operand → AV
  | .tmp t => rdN N fr δ t
  | .const v => constAV v
  | .func f => .fn f []
  | .global _ => .any
theorem evA_vf (N : Nat) (fr : List AV) (δ : List (Nat × AV)) : evA (vf N fr δ) = evAL N fr δ := by
  funext x
  cases x <;> simp only [evA, evAL, vf_get]
def setL (δ : List (Nat × AV)) (d : Option Tmp) (r : AV) : List (Nat × AV) :=
  match d with
  | some d => (d, r) :: δ
  | .none => δ
def setLK (δ : List (Nat × AV)) (d : Option Tmp) (r : AV) (K : List (Nat × AV) → Option Prop) : Option Prop :=
  match d with
  | some d => K ((d, r) :: δ)
  | .none => K δ
theorem setLK_eq (δ : List (Nat × AV)) (d : Option Tmp) (r : AV) (K : List (Nat × AV) → Option Prop) : setLK δ d r K = K (setL δ d r) := by
  cases d <;> rfl
theorem setO_vf (N : Nat) (fr : List AV) (δ : List (Nat × AV)) (d : Option Tmp) (r : AV) : setO (vf N fr δ) d r = vf N fr (setL δ d r) := by
  cases d with
  | none => rfl
  | some d => exact vf_set N fr δ d r

/-- What follows from the one follows from the other. -/
def Rl (a b : Option Prop) : Prop := ∀ Q, a = some Q → ∃ Q2, b = some Q2 ∧ (Q → Q2)
theorem rl_none (b : Option Prop) : Rl .none b := fun _ h => by cases h
theorem br_rl {p : Bool} {A A' B B' : Option Prop} (h : Rl A A') (k : Rl B B') : Rl (br p A B) (br p A' B') := by
  intro Q hQ
  unfold br at hQ
  split at hQ
  · obtain ⟨a', ea, ha⟩ := h _ rfl
    split at hQ
    · obtain ⟨b', eb, hb⟩ := k _ rfl
      cases hQ
      exact ⟨(p = true → a') ∧ (p = false → b'), by rw [ea, eb]; rfl, fun q => ⟨fun e => ha (q.1 e), fun e => hb (q.2 e)⟩⟩
    · cases hQ
      cases B' with
      | none => exact ⟨(p = true → a') ∧ (p = false → False), by rw [ea]; rfl, fun q => ⟨fun e => ha (q.1 e), fun e => q.2 e⟩⟩
      | some b' => exact ⟨(p = true → a') ∧ (p = false → b'), by rw [ea]; rfl, fun q => ⟨fun e => ha (q.1 e), fun e => (q.2 e).elim⟩⟩
  · split at hQ
    · obtain ⟨b', eb, hb⟩ := k _ rfl
      cases hQ
      cases A' with
      | none => exact ⟨(p = true → False) ∧ (p = false → b'), by rw [eb]; rfl, fun q => ⟨fun e => q.1 e, fun e => hb (q.2 e)⟩⟩
      | some a' => exact ⟨(p = true → a') ∧ (p = false → b'), by rw [eb]; rfl, fun q => ⟨fun e => (q.1 e).elim, fun e => hb (q.2 e)⟩⟩
    · cases hQ
theorem cj_tot : ∀ (l : List Prop) (q : Prop) (K : Prop → Option Prop), ∃ q', cj l q K = K q' ∧ (q' ↔ (allP l ∧ q))
  | [], q, K => ⟨q, rfl, by simp [allP]⟩
  | p :: l, q, K => by
    obtain ⟨q', h1, h2⟩ := cj_tot l q (fun q => K (p ∧ q))
    exact ⟨_, h1, by rw [h2]; simp only [allP, and_assoc]⟩
theorem conjO_rl {v : List Prop} {A A' : Option Prop} (h : Rl A A') : Rl (conjO v A) (conjO v A') := by
  intro Q hQ
  unfold conjO at hQ
  split at hQ
  · rename_i q
    obtain ⟨q2, e2, h2⟩ := h _ rfl
    obtain ⟨q', h3, h4⟩ := cj_some _ _ _ _ hQ
    cases h3
    obtain ⟨q3, h5, h6⟩ := cj_tot v q2 some
    exact ⟨q3, by rw [e2]; exact h5, fun hq => h6.2 ⟨(h4.1 hq).1, h2 (h4.1 hq).2⟩⟩
  · cases hQ

section
variable (N : Nat) (fr : List AV)
def decL (δ : List (Nat × AV)) (t : Tmp) (K : Bool → List (Nat × AV) → Option Prop) : Option Prop :=
  match rdN N fr δ t with
  | .d true => K true δ
  | .d false => K false δ
  | .b p => br p (K true ((t, .d true) :: δ)) (K false ((t, .d false) :: δ))
  | _ => .none
theorem decL_rl {δ : List (Nat × AV)} {t : Tmp} {K : Bool → List (Nat × AV) → Option Prop} {K' : Bool → List AV → Option Prop} (h : ∀ b δ, Rl (K b δ) (K' b (vf N fr δ))) : Rl (decL N fr δ t K) (decT (vf N fr δ) t K') := by
  unfold decL decT
  rw [vf_get]
  generalize rdN N fr δ t = v
  split
  · exact h _ _
  · exact h _ _
  · rw [fL_eq, fL_eq, vf_set, vf_set]
    exact br_rl (h _ _) (h _ _)
  · exact rl_none _
def pickL (δ : List (Nat × AV)) (K : List (Nat × AV) → Option Prop) : Op → Option Prop
  | .pick (.tmp t) _ _ => decL N fr δ t fun _ δ => K δ
  | _ => K δ
theorem pickL_rl {δ : List (Nat × AV)} {K : List (Nat × AV) → Option Prop} {K' : List AV → Option Prop} (h : ∀ δ, Rl (K δ) (K' (vf N fr δ))) (op : Op) : Rl (pickL N fr δ K op) (pickT (vf N fr δ) K' op) := by
  unfold pickL
  split
  · exact decL_rl N fr fun _ δ => h δ
  · rename_i hn
    unfold pickT
    split
    · exact absurd rfl (hn _ _ _)
    · exact h δ
def guardL (all : Array Oper) (δ : List (Nat × AV)) (K : Bool → List (Nat × AV) → Option Prop) : Option (Nat × Bool) → Option Prop
  | .none => K true δ
  | some (j, want) => match (all[j]?).bind (·.dst) with
    | some t => (match rdN N fr δ t with
      | .un => K false δ
      | _ => decL N fr δ t fun bit δ => K (bit == want) δ)
    | .none => .none
theorem guardL_rl {all : Array Oper} {δ : List (Nat × AV)} {K : Bool → List (Nat × AV) → Option Prop} {K' : Bool → List AV → Option Prop} (h : ∀ b δ, Rl (K b δ) (K' b (vf N fr δ))) (g : Option (Nat × Bool)) : Rl (guardL N fr all δ K g) (guardT all (vf N fr δ) K' g) := by
  cases g with
  | none => exact h _ _
  | some x =>
    obtain ⟨j, want⟩ := x
    simp only [guardL, guardT]
    generalize (all[j]?).bind (·.dst) = e
    cases e with
    | none => exact rl_none _
    | some t =>
      dsimp only
      rw [vf_get]
      have hd := decL_rl N fr (δ := δ) (t := t) (K := fun bit δ => K (bit == want) δ) (K' := fun bit F => K' (bit == want) F) fun b δ => h _ δ
      generalize rdN N fr δ t = v
      generalize decL N fr δ t _ = A at *
      generalize decT (vf N fr δ) t _ = B at *
      cases v
      case un => exact h _ _
      all_goals exact hd
def condL (δ : List (Nat × AV)) (K : Bool → List (Nat × AV) → Option Prop) : Operand → Option Prop
  | .tmp t => decL N fr δ t K
  | .const (.bool b) => K b δ
  | _ => .none
theorem condL_rl {δ : List (Nat × AV)} {K : Bool → List (Nat × AV) → Option Prop} {K' : Bool → List AV → Option Prop} (h : ∀ b δ, Rl (K b δ) (K' b (vf N fr δ))) (x : Operand) : Rl (condL N fr δ K x) (condT (vf N fr δ) K' x) := by
  unfold condL condT
  split
  · exact decL_rl N fr h
  · exact h _ _
  · exact rl_none _
def evOpsL (Γ : Tab) (wr : Bool) (tb : FuncId → Option Fun) (all : Array Oper) : List Oper → List (Nat × AV) → List Blk → (List (Nat × AV) → List Blk → Option Prop) → Option Prop
  | [], δ, M, K => K δ M
  | o :: rest, δ, M, K =>
    guardL N fr all δ (fun ok δ => match ok with
      | true => pickL N fr δ (fun δ => match evO Γ wr tb M (evAL N fr δ) o.op with
        | some (r, M, v3) => fAV r fun r => fM M fun M => conjO v3 (setLK δ o.dst r fun δ => evOpsL Γ wr tb all rest δ M K)
        | .none => .none) o.op
      | false => setLK δ o.dst AV.un fun δ => evOpsL Γ wr tb all rest δ M K) o.guard
theorem evOpsL_rl {wr : Bool} {tb : FuncId → Option Fun} {all : Array Oper} {K : List (Nat × AV) → List Blk → Option Prop} {K' : List AV → List Blk → Option Prop} (hK : ∀ δ M, Rl (K δ M) (K' (vf N fr δ) M)) : ∀ (l : List Oper) (δ : List (Nat × AV)) (M : List Blk),
    Rl (evOpsL N fr Γ wr tb all l δ M K) (evOpsT Γ wr tb all l (vf N fr δ) M K') := by
  intro l
  induction l with
  | nil => intro δ M; exact hK δ M
  | cons o rest ih =>
    intro δ M
    simp only [evOpsL, evOpsT]
    refine guardL_rl N fr (fun ok δ => ?_) _
    cases ok with
    | true =>
      dsimp only
      refine pickL_rl N fr (fun δ => ?_) _
      rw [evA_vf]
      generalize evO Γ wr tb M (evAL N fr δ) o.op = e
      split
      · simp only [fAV_eq, fM_eq, fL_eq, setLK_eq, setO_vf]
        exact conjO_rl (ih _ _)
      · exact rl_none _
    | false =>
      dsimp only
      simp only [fL_eq, setLK_eq, setO_vf]
      exact ih _ _
end

/-- What is kept. -/
def flush (K : Nat) (fr : List AV) : List (Nat × AV) → List AV
  | [] => fr
  | (t, v) :: δ => match Nat.blt t K with
    | true => (flush K fr δ).set t v
    | false => flush K fr δ
def hd1 : List (Nat × AV) → List (Nat × AV)
  | [] => []
  | x :: _ => [x]
theorem flush_len (K : Nat) (fr : List AV) (δ : List (Nat × AV)) : (flush K fr δ).length = fr.length := by
  induction δ with
  | nil => rfl
  | cons x δ ih =>
    obtain ⟨t, v⟩ := x
    unfold flush
    split
    · rw [List.length_set, ih]
    · exact ih
theorem flush_get {fr : List AV} : ∀ (δ : List (Nat × AV)) (t : Nat), (flush fr.length fr δ).getD t .any = .any ∨ (flush fr.length fr δ).getD t .any = rdL fr δ t := by
  intro δ t
  by_cases ht : t < fr.length
  · right
    induction δ with
    | nil => rfl
    | cons x δ ih =>
      obtain ⟨u, v⟩ := x
      unfold flush rdL
      rw [beq_nat, blt_eq]
      by_cases e : u = t
      · subst e
        rw [decide_eq_true rfl, decide_eq_true ht]
        show (List.set _ _ _).getD _ _ = _
        rw [List.getD_eq_getElem?_getD, List.getElem?_set_self (by rw [flush_len]; exact ht)]; rfl
      · rw [decide_eq_false e]
        by_cases hu : u < fr.length
        · rw [decide_eq_true hu]
          show (List.set _ _ _).getD _ _ = _
          rw [List.getD_eq_getElem?_getD, List.getElem?_set_ne e, ← List.getD_eq_getElem?_getD]; exact ih
        · rw [decide_eq_false hu]; exact ih
  · left
    rw [List.getD_eq_getElem?_getD, List.getElem?_eq_none (by rw [flush_len]; omega)]; rfl
theorem leA_refl (x : AV) : leA x x := by
  unfold leA
  split
  · trivial
  · exact sameA_refl _
theorem leF_of_get : ∀ {l l' : List AV}, l.length = l'.length → (∀ t, t < l.length → l.getD t .any = .any ∨ l.getD t .any = l'.getD t .any) → leF l l'
  | [], [], _, _ => trivial
  | x :: l, y :: l', h, k => by
    refine ⟨?_, leF_of_get (by simpa using h) fun t ht => ?_⟩
    · rcases k 0 (by simp) with e | e
      · have e' : x = .any := e
        rw [e']; trivial
      · have e' : x = y := e
        rw [e']; exact leA_refl _
    · have := k (t + 1) (by simpa using ht)
      simpa using this
  | [], _ :: _, h, _ => by cases h
  | _ :: _, [], h, _ => by cases h
theorem leF_vf {N : Nat} {fr fr' : List AV} {δ δ' : List (Nat × AV)} (h : ∀ t, t < N → rdL fr' δ' t = .any ∨ rdL fr' δ' t = rdL fr δ t) : leF (vf N fr' δ') (vf N fr δ) := by
  refine leF_of_get (by rw [vf_len, vf_len]) fun t ht => ?_
  rw [vf_len] at ht
  rw [vf_get, vf_get, rdN, rdN, blt_eq, decide_eq_true ht]
  exact h t ht
theorem leF_flush (N : Nat) (fr : List AV) (δ : List (Nat × AV)) : leF (vf N (flush fr.length fr δ) []) (vf N fr δ) := leF_vf fun t _ => flush_get δ t
theorem leF_hd (N : Nat) (fr : List AV) (δ : List (Nat × AV)) : leF (vf N (flush fr.length fr δ) (hd1 δ)) (vf N fr δ) := by
  cases δ with
  | nil => exact leF_flush N fr []
  | cons x δ =>
    obtain ⟨u, v⟩ := x
    refine leF_vf fun t _ => ?_
    have h := flush_get (fr := fr) ((u, v) :: δ) t
    generalize flush fr.length fr ((u, v) :: δ) = l at *
    simp only [hd1, rdL, beq_nat] at h ⊢
    by_cases e : u = t
    · simp only [decide_eq_true e]; exact .inr trivial
    · simp only [decide_eq_false e] at h ⊢; exact h

theorem leM_same : ∀ (M : List Blk), leM M M
  | [] => trivial
  | b :: M => ⟨by cases b <;> first | trivial | rfl, leM_same M⟩
/-- A body whose frame is N slots long, of which the first are known. -/
def GoesV (P : Program) (fn : FuncId) (m N : Nat) (todo : List Item) (fr : List AV) (M : List Blk) (R : AV → List Blk → Prop) : Prop := Goes P fn m todo (pad N fr) M R

def lastD (ops : List Oper) (F : List AV) (K : List (Nat × AV) → Option Prop) : Option Prop :=
  match ops.getLast? with
  | some o => (match o.dst with
    | some d => fAV (F.getD d .any) fun v => K [(d, v)]
    | .none => K [])
  | .none => K []
theorem lastD_eq (ops : List Oper) (F : List AV) (K : List (Nat × AV) → Option Prop) : ∃ δ, (δ = [] ∨ ∃ d, δ = [(d, F.getD d .any)]) ∧ lastD ops F K = K δ := by
  unfold lastD
  split
  · split
    · rename_i d _
      rw [fAV_eq]; exact ⟨_, .inr ⟨d, rfl⟩, rfl⟩
    · exact ⟨_, .inl rfl, rfl⟩
  · exact ⟨_, .inl rfl, rfl⟩
theorem take_getA (F : List AV) (K t : Nat) : (F.take K).getD t .any = .any ∨ (F.take K).getD t .any = F.getD t .any := by
  by_cases h : t < K
  · right
    rw [List.getD_eq_getElem?_getD, List.getD_eq_getElem?_getD, List.getElem?_take, if_pos h]
  · left
    rw [List.getD_eq_getElem?_getD, List.getElem?_take, if_neg h]; rfl
theorem leF_take {N : Nat} {F : List AV} (hN : F.length = N) (K : Nat) {δ : List (Nat × AV)} (hδ : δ = [] ∨ ∃ d, δ = [(d, F.getD d .any)]) : leF (vf N (F.take K) δ) F := by
  refine leF_of_get (by rw [vf_len, hN]) fun t ht => ?_
  rw [vf_len] at ht
  rw [vf_get, rdN, blt_eq, decide_eq_true ht]
  dsimp only
  rcases hδ with rfl | ⟨d, rfl⟩
  · exact take_getA F K t
  · simp only [rdL, beq_nat]
    by_cases e : d = t
    · simp only [decide_eq_true e]; rw [e]; exact .inr rfl
    · simp only [decide_eq_false e]; exact take_getA F K t
def treeL (P : Program) (Γ : Tab) (z wr : Bool) (tb : FuncId → Option Fun) (fn : FuncId) (m N : Nat) (res : List ResultVar) (R : AV → List Blk → Prop) : Nat → List Item → List AV → List (Nat × AV) → List Blk → Option Prop
  | 0, todo, fr, δ, M => fL (flush fr.length fr δ) fun fr => some (Lf (GoesV P fn m N todo fr M R))
  | n + 1, todo, fr, δ, M => match todo with
    | [] => fL (flush fr.length fr δ) fun fr => retT Γ z res R fr M
    | .inLoop c :: k => fL (flush fr.length fr δ) fun fr => some (Lf (GoesV P fn m N (.code c :: .inLoop c :: k) fr M R))
    | .inBlock _ :: k => treeL P Γ z wr tb fn m N res R n k fr δ M
    | .code c :: k => match c with
      | .ret => fL (flush fr.length fr δ) fun fr => retT Γ z res R fr M
      | .loop c => fL (flush fr.length fr δ) fun fr => some (Lf (GoesV P fn m N (.code c :: .inLoop c :: k) fr M R))
      | .skip => treeL P Γ z wr tb fn m N res R n k fr δ M
      | .label _ => treeL P Γ z wr tb fn m N res R n k fr δ M
      | .seq x y => treeL P Γ z wr tb fn m N res R n (.code x :: .code y :: k) fr δ M
      | .block id c => treeL P Γ z wr tb fn m N res R n (.code c :: .inBlock id :: k) fr δ M
      | .exit id => (match exitTo id k with
        | some k' => treeL P Γ z wr tb fn m N res R n k' fr δ M
        | .none => .none)
      | .goto l => (match gotoIn l k with
        | some k' => treeL P Γ z wr tb fn m N res R n k' fr δ M
        | .none => .none)
      | .cond x c d => condL N fr δ (fun bit δ => match bit with
        | true => treeL P Γ z wr tb fn m N res R n (.code c :: k) fr δ M
        | false => treeL P Γ z wr tb fn m N res R n (.code d :: k) fr δ M) x
      | .region _ ops false => evOpsL N fr Γ wr tb ops ops.toList δ M fun δ M => fL (flush fr.length fr δ) fun fr => treeL P Γ z wr tb fn m N res R n k fr (hd1 δ) M
      | .region _ ops true => fL (pad N (flush fr.length fr δ)) fun F => evRT Γ wr tb ops.toList F M fun F M => (match Nat.beq F.length N with
        | true => fL (F.take fr.length) fun fr => lastD ops.toList F fun δ => treeL P Γ z wr tb fn m N res R n k fr δ M
        | false => .none)
      | _ => .none
    | _ => .none

theorem evRes1_pad {N : Nat} {fr : List AV} (M : List Blk) (x : ResultVar) : evRes1 Γ (pad N fr) M x = evRes1 Γ fr M x := by
  have hg : ∀ t, (pad N fr).getD t .any = fr.getD t .any := fun t => by
    rw [pad, List.getD_eq_getElem?_getD, List.getD_eq_getElem?_getD]
    by_cases e : t < fr.length
    · rw [List.getElem?_append_left e]
    · rw [List.getElem?_append_right (by omega), List.getElem?_replicate, List.getElem?_eq_none (l := fr) (by omega)]
      split <;> rfl
  cases x <;> simp only [evRes1, hg]
theorem evResL_pad {N : Nat} {fr : List AV} (M : List Blk) (l : List ResultVar) : evResL Γ (pad N fr) M l = evResL Γ fr M l := by
  induction l with
  | nil => rfl
  | cons x l ih => simp only [evResL, evRes1_pad, ih]
theorem retT_pad {N : Nat} {fr : List AV} {z : Bool} {res : List ResultVar} {R : AV → List Blk → Prop} {M : List Blk} : retT Γ z res R (pad N fr) M = retT Γ z res R fr M := by
  unfold retT; rw [evResL_pad]

theorem treeL_sound (H : TabOk P Γ) {tb : FuncId → Option Fun} (htb : TbOk P tb) {z wr : Bool} {fn : FuncId} {m N : Nat} {R : AV → List Blk → Prop} {f : Func} (hf : P.funcs[fn]? = some f) : ∀ (n : Nat) (todo : List Item) (fr : List AV) (δ : List (Nat × AV)) (M : List Blk) (Q : Prop), fr.length ≤ N →
    treeL P Γ z wr tb fn m N f.results.toList R n todo fr δ M = some Q → Q → Goes P fn m todo (vf N fr δ) M R := by
  intro n
  induction n with
  | zero =>
    intro todo fr δ M Q hl h hQ
    unfold treeL at h
    rw [fL_eq] at h
    cases h
    exact Goes.weak (leF_flush N fr δ) (leM_same M) (by rw [vf_nil (by rw [flush_len]; exact hl)]; exact hQ.get)
  | succ n ih =>
    intro todo fr δ M Q hl h hQ
    have hlf : (flush fr.length fr δ).length ≤ N := by rw [flush_len]; exact hl
    have hw : ∀ {todo : List Item}, Goes P fn m todo (pad N (flush fr.length fr δ)) M R → Goes P fn m todo (vf N fr δ) M R := fun g => Goes.weak (leF_flush N fr δ) (leM_same M) (by rw [vf_nil hlf]; exact g)
    unfold treeL at h
    split at h
    · rw [fL_eq, ← retT_pad (N := N)] at h
      exact hw (retT_sound H hf h hQ).2
    · rw [fL_eq] at h
      cases h; exact hw (hQ.get.step fun b a cs w => step_inLoop)
    · exact (ih _ _ _ _ _ hl h hQ).step fun b a cs w => step_inBlock
    · split at h
      · rw [fL_eq, ← retT_pad (N := N)] at h
        exact hw ((retT_sound H hf h hQ).1 _)
      · rw [fL_eq] at h
        cases h; exact hw (hQ.get.step fun b a cs w => step_loop)
      · exact (ih _ _ _ _ _ hl h hQ).step fun b a cs w => step_skip
      · exact (ih _ _ _ _ _ hl h hQ).step fun b a cs w => step_label
      · exact (ih _ _ _ _ _ hl h hQ).step fun b a cs w => step_seq
      · exact (ih _ _ _ _ _ hl h hQ).step fun b a cs w => step_block
      · split at h
        · rename_i he; exact (ih _ _ _ _ _ hl h hQ).step fun b a cs w => step_exit he
        · cases h
      · split at h
        · rename_i he; exact (ih _ _ _ _ _ hl h hQ).step fun b a cs w => step_goto he
        · cases h
      · rename_i x c d
        obtain ⟨Q2, h2, hq⟩ := condL_rl N fr (K' := fun bit F => some (Goes P fn m (.code (if bit = true then c else d) :: _) F M R)) (fun bit δ Q' h' => ⟨_, rfl, fun q' => by
          cases bit
          · exact ih _ _ _ _ _ hl h' q'
          · exact ih _ _ _ _ _ hl h' q'⟩) x _ h
        obtain ⟨π1, bit, fr', v, h1, hv, Q', h3, hQ'⟩ := condT_some h2 (hq hQ)
        have h1' := h1 []
        cases h3
        exact Goes.cond h1' hv hQ'
      · rename_i ops
        obtain ⟨Q2, h2, hq⟩ := evOpsL_rl N fr (K' := fun F M => some (Goes P fn m _ F M R)) (fun δ M Q' h' => ⟨_, rfl, fun q' => by
          rw [fL_eq] at h'
          exact Goes.weak (leF_hd N fr δ) (leM_same M) (ih _ _ _ _ _ (by rw [flush_len]; exact hl) h' q')⟩) _ _ _ _ h
        obtain ⟨π1, fr', M', v, h1, hv, Q', h3, hQ'⟩ := evOpsT_some _ _ _ _ h2 (hq hQ)
        have h1' := h1 []
        cases h3
        refine Goes.region (fun ρ a w hF hM => ?_) hQ'
        exact wp_region_list (evOps_sound H htb _ ρ _ M _ a w _ _ _ _ hF hM h1' hv fun a' w' ρ' g1 g2 g3 => ⟨rfl, ρ', g1, g2, g3⟩)
      · rename_i ops
        rw [fL_eq] at h
        obtain ⟨π1, fr', M', v, h1, hv, Q', h2, hQ'⟩ := evRT_some h hQ
        have h1' := h1 []
        split at h2
        · rename_i hb
          rw [fL_eq] at h2
          obtain ⟨δ', hδ, e⟩ := lastD_eq ops.toList fr' fun δ => treeL P Γ z wr tb fn m N f.results.toList R n _ (fr'.take fr.length) δ M'
          rw [e] at h2
          have hlt : (fr'.take fr.length).length ≤ N := by rw [List.length_take]; omega
          have g := ih _ _ _ _ _ hlt h2 hQ'
          refine hw (Goes.region (fun ρ a w hF hM => ?_) (Goes.weak (leF_take (Nat.eq_of_beq_eq_true hb) _ hδ) (leM_same M') g))
          rw [List.append_nil] at h1'
          exact evR_sound H htb hF hM h1' hv fun a' w' ρ' g1 g2 g3 => ⟨rfl, ρ', g1, g2, g3⟩
        · cases h2
      · cases h
    · cases h

/-- The rest of such a body, both ways at each open test. -/
theorem GoesV.tree (H : TabOk P Γ) {tb : FuncId → Option Fun} (htb : TbOk P tb) (n : Nat) (z wr : Bool) {fn : FuncId} {m N : Nat} {R : AV → List Blk → Prop} {f : Func} (hf : P.funcs[fn]? = some f) {todo : List Item} {fr : List AV} {M : List Blk} {Q : Prop}
    (hN : Nat.ble fr.length N = true) (h : Eng.treeL P Γ z wr tb fn m N f.results.toList R n todo fr [] M = some Q) (hQ : Q) : GoesV P fn m N todo fr M R := by
  have := treeL_sound H htb hf n _ _ _ _ _ (Nat.le_of_ble_eq_true hN) h hQ
  rw [vf_nil (Nat.le_of_ble_eq_true hN)] at this
  exact this

theorem leF_app : ∀ {a b c d : List AV}, leF a b → leF c d → leF (a ++ c) (b ++ d)
  | [], [], _, _, _, k => k
  | _ :: _, _ :: _, _, _, h, k => ⟨h.1, leF_app h.2 k⟩
  | [], _ :: _, _, _, h, _ => h.elim
  | _ :: _, [], _, _, h, _ => h.elim
theorem leF_any (n : Nat) : leF (List.replicate n .any) (List.replicate n .any) := by
  induction n with
  | zero => trivial
  | succ n ih => exact ⟨trivial, ih⟩
theorem RenOk.pad {m : Nat} {σ : List Nat} {fr fr' : List AV} {M M' : List Blk} (N : Nat) (h : RenOk m σ fr M fr' M') : RenOk m σ (Eng.pad N fr) M (Eng.pad N fr') M' := by
  obtain ⟨h1, h2, h3, h4, h5, h6, h7, h8⟩ := h
  have hl : fr.length = fr'.length := by have := leF_len h4; rwa [List.length_map] at this
  refine ⟨h1, h2, h3, ?_, h5, ?_, h7, h8⟩
  · unfold Eng.pad
    rw [List.map_append, hl]
    refine leF_app h4 ?_
    rw [List.map_replicate]
    exact leF_any _
  · unfold Eng.pad
    rw [List.all_append, h6, Bool.true_and, List.all_eq_true]
    intro x hx
    rw [(List.mem_replicate.1 hx).2]; rfl
theorem GoesV.loopR {m N : Nat} {fn : FuncId} {R : AV → List Blk → Prop} {ι : Type} (μ : ι → Nat) (I : ι → Prop) (fr : ι → List AV) (M : ι → List Blk) {todo : List Item} {fr0 : List AV} {M0 : List Blk} (i0 : ι) (σ0 : List Nat) (h0 : I i0)
    (e0 : RenOk m σ0 (fr i0) (M i0) fr0 M0)
    (h : ∀ i, I i → (∀ j, I j → μ j < μ i → ∀ σ fr' M', RenOk m σ (fr j) (M j) fr' M' → GoesV P fn m N todo fr' M' R) → GoesV P fn m N todo (fr i) (M i) R) : GoesV P fn m N todo fr0 M0 R :=
  Goes.ren σ0 (e0.pad N) (Goes.loop (S := fun _ => R) μ I (fun i hi ih => h i hi fun j hj hlt σ _ _ h1 => Goes.ren σ (h1.pad N) (ih j hj hlt)) i0 h0)
theorem GoesV.ren {m N : Nat} {fn : FuncId} {R : AV → List Blk → Prop} {todo : List Item} {fr fr' : List AV} {M M' : List Blk} (σ : List Nat) (h : RenOk m σ fr M fr' M') (g : GoesV P fn m N todo fr M R) : GoesV P fn m N todo fr' M' R := Goes.ren σ (h.pad N) g
/-- A function is shown by its body's run; of its frame the first K slots are known. -/
theorem SpecOK.of_goesV {f : FuncId} {F : Func} {body : Code} {args : List AV} {M M' : List Blk} {r : AV} (σ : List Nat) (K : Nat) (hf : P.funcs[f]? = some F) (hb : F.body = some body) (hK : (Nat.ble args.length K && Nat.ble K F.ntmps) = true)
    (g : GoesV P f M.length F.ntmps [.code body] (args ++ List.replicate (K - args.length) .any) M fun r' N => Fin σ M.length r' N r M') : SpecOK P f args M r M' := by
  refine SpecOK.of_goes σ hf hb ?_
  rw [Bool.and_eq_true] at hK
  have h1 := Nat.le_of_ble_eq_true hK.1
  have h2 := Nat.le_of_ble_eq_true hK.2
  have e : args ++ List.replicate (F.ntmps - args.length) AV.any = pad F.ntmps (args ++ List.replicate (K - args.length) .any) := by
    unfold pad
    rw [List.append_assoc, List.replicate_append_replicate, List.length_append, List.length_replicate]
    congr 2
    omega
  rw [e]
  exact g
theorem pad_set {N : Nat} {fr : List AV} {t : Nat} (h : t < fr.length) (v : AV) : pad N (fr.set t v) = (pad N fr).set t v := by
  unfold pad
  rw [List.set_append_left _ _ h, List.length_set]
theorem pad_get {N : Nat} {fr : List AV} {t : Nat} (h : t < fr.length) : (pad N fr).getD t .any = fr.getD t .any := by
  unfold pad
  rw [List.getD_eq_getElem?_getD, List.getD_eq_getElem?_getD, List.getElem?_append_left h]
/-- A row of such a frame is frozen: from here on nobody writes there. -/
theorem GoesV.freeze {P : Program} {fn : FuncId} {m N : Nat} {R : AV → List Blk → Prop} {todo : List Item} {fr : List AV} {M : List Blk} (t id n : Nat) (σ : Sg) (e : TypeId) {c : Cn} (ht : fr.getD t .any = .ow id n σ e) (hc : srcOf M (.ow id n σ e) = some c) (g : GoesV P fn m N todo (fr.set t (frz c)) (M.set id .dead) R) (hty : frzOk σ e = true := by rfl) : GoesV P fn m N todo fr M R := by
  have hl : t < fr.length := by
    apply Classical.byContradiction
    intro h
    rw [List.getD_eq_getElem?_getD, List.getElem?_eq_none (by omega)] at ht
    cases ht
  unfold GoesV at g
  rw [pad_set hl] at g
  exact Goes.freeze t id n σ e (by rw [pad_get hl]; exact ht) hc g hty
end Go.Eng

/- The engine, part 27: a walk forward from one world: regions in parts, calls by their own words. No conditions. -/
namespace Go.Eng
open Go Go.RowKit
set_option linter.unusedSectionVars false
set_option linter.unusedSimpArgs false
variable [Glob]
variable {P : Program} {Γ : Tab}

theorem evOps_split (H : TabOk P Γ) {tb : FuncId → Option Fun} (htb : TbOk P tb) {wr : Bool} {all : Array Oper} {Q : Exit → Act → World → Prop} (l2 : List Oper) :
    ∀ (l : List Oper) (ρ : Rho) (fr : List AV) (M : List Blk) (π : List Bool) (a : Act) (w : World) (fr' : List AV) (M' : List Blk) (π' : List Bool) (vs : List Prop),
      FRel ρ M.length fr a → MRel ρ M w → evOps Γ wr tb all l fr M π = some (fr', M', π', vs) → allP vs →
      (∀ a' w' ρ', After ρ M M' w w' ρ' → FRel ρ' M'.length fr' a' → a'.defers = a.defers → wpList P all Q l2 a' w') → wpList P all Q (l ++ l2) a w := by
  intro l
  induction l with
  | nil =>
    intro ρ fr M π a w fr' M' π' vs hF hM h hv K
    cases h
    exact K a w ρ (After.refl hM) hF rfl
  | cons o rest ih =>
    intro ρ fr M π a w fr' M' π' vs hF hM h hv K
    show wpList P all Q (o :: (rest ++ l2)) a w
    simp only [evOps] at h
    -- the guard
    have guard : ∀ (b : Bool) (fr1 : List AV) (π1 : List Bool) (v1 : List Prop),
        (match o.guard with
          | .none => some (true, fr, π, [])
          | some (j, want) => match (all[j]?).bind (·.dst) with
            | some t => guard1 fr t want π
            | .none => .none) = some (b, fr1, π1, v1) → allP v1 → Region.wanted o (yielded all a.tmps) = b ∧ FRel ρ M.length fr1 a := by
      intro b fr1 π1 v1 hg hv1
      unfold Region.wanted
      split at hg
      · cases hg; rename_i e; rw [e]; exact ⟨rfl, hF⟩
      · rename_i j want e
        rw [e]
        dsimp only
        split at hg
        · rename_i t ht
          unfold guard1 at hg
          split at hg
          · rename_i hun
            cases hg
            refine ⟨?_, hF⟩
            have hdt := hF.den t
            rw [hun] at hdt
            unfold yielded
            rw [ht]
            simp only [Option.bind_some]
            rw [Array.getD_eq_getD_getElem?] at hdt
            cases hq : a.tmps[t]? with
            | none => rfl
            | some q =>
              rw [hq] at hdt
              simp only [Den, Option.getD_some] at hdt
              subst hdt
              rfl
          split at hg
          · rename_i bit fr2 π2 v2 hd
            cases hg
            obtain ⟨q1, q2, -⟩ := decide1_sound hF hd hv1
            refine ⟨?_, q1⟩
            unfold yielded
            rw [ht]
            simp only [Option.bind_some, q2]
            cases bit <;> cases want <;> rfl
          · cases hg
        · cases hg
    split at h
    · rename_i fr1 π1 v1 hg
      split at h
      · rename_i fr2 π2 v2 hd
        split at h
        · rename_i r M1 v3 ho
          simp only [fAV_eq, fM_eq, fL_eq, fP_eq] at h
          split at h
          · rename_i fr3 M3 π3 v4 hrest
            cases h
            rw [allP_app, allP_app, allP_app] at hv
            obtain ⟨⟨⟨hv1, hv2⟩, hv3⟩, hv4⟩ := hv
            obtain ⟨hw, hF1⟩ := guard true fr1 π1 v1 hg hv1
            have hF2 : FRel ρ M.length fr2 a := by
              unfold decideP at hd
              split at hd
              · split at hd
                · rename_i hd1
                  cases hd
                  exact (decide1_sound hF1 hd1 hv2).1
                · cases hd
              · cases hd; exact hF1
            unfold wpList
            rw [hw]
            simp only [if_true]
            refine .inl (evO_sound H htb (den_op hF2) (ids_op hF2) hM ho hv3 ?_)
            intro v w' ρ' hA hden hids
            have hF3 : FRel ρ' M1.length (setO fr2 o.dst r) (a.put o.dst v) := putO (FRel.ext hA.fmono hF2 hA.ext hA.len) hden hids o.dst
            refine ih ρ' _ M1 π2 _ w' _ _ _ _ hF3 hA.rel hrest hv4 ?_
            intro a' w2 ρ2 hA2 hF4 hdef
            exact K a' w2 ρ2 (hA.trans hA2) hF4 (by rw [hdef, put_defers])
          · cases h
        · cases h
      · cases h
    · rename_i fr1 π1 v1 hg
      simp only [fL_eq] at h
      split at h
      · rename_i fr3 M3 π3 v4 hrest
        cases h
        rw [allP_app] at hv
        obtain ⟨hv1, hv4⟩ := hv
        obtain ⟨hw, hF1⟩ := guard false fr1 π1 v1 hg hv1
        unfold wpList
        rw [hw]
        simp only [Bool.false_eq_true, if_false]
        refine ih ρ _ M π1 _ w _ _ _ _ (putO hF1 (r := .un) (v := undef) rfl (by simp [AV.ids]) o.dst) hM hrest hv4 ?_
        intro a' w2 ρ2 hA2 hF4 hdef
        exact K a' w2 ρ2 hA2 hF4 (by rw [hdef, put_defers])
      · cases h
    · cases h


theorem evOps_take (H : TabOk P Γ) {tb : FuncId → Option Fun} (htb : TbOk P tb) {wr : Bool} {all : Array Oper} {Q : Exit → Act → World → Prop} (n : Nat) {l : List Oper} {ρ : Rho} {fr fr' : List AV} {M M' : List Blk} {π π' : List Bool} {a : Act} {w : World} {vs : List Prop}
    (hF : FRel ρ M.length fr a) (hM : MRel ρ M w) (h : evOps Γ wr tb all (l.take n) fr M π = some (fr', M', π', vs)) (hv : allP vs)
    (K : ∀ a' w' ρ', After ρ M M' w w' ρ' → FRel ρ' M'.length fr' a' → a'.defers = a.defers → wpList P all Q (l.drop n) a' w') : wpList P all Q l a w := by
  have := evOps_split H htb (wr := wr) (all := all) (Q := Q) (l.drop n) (l.take n) ρ fr M π a w fr' M' π' vs hF hM h hv K
  rwa [List.take_append_drop] at this
theorem wp_call1 {all : Array Oper} {Q : Exit → Act → World → Prop} {o : Oper} {rest : List Oper} {c : Call} {n : Nat} {vals : Array Value} {a : Act} {w : World} (hg : o.guard = .none) (ho : o.op = .call c) (hc : c.callee = .value (.func n)) (hv : c.args.map a.eval = vals)
    {F : Func} (hf : P.funcs[n]? = some F) (hb : F.body.isNone = false) (hn : (F.name == "runtime.NumGoroutine") = false)
    (h : Calls P n vals w fun e w' => ∃ v, e = .returned v ∧ wpList P all Q rest (a.put o.dst v) w') : wpList P all Q (o :: rest) a w := by
  have hrun : (execOp a.eval o).run P w = (callFunc n vals).run P w := by
    simp only [execOp, ho, resolve, hc, Act.eval, Deferred.ofValue, Sem.run_bind, Sem.run_pure, Result.andThen_ok, invoke, hv]
    simp
  unfold wpList
  rw [if_pos (by unfold Region.wanted; rw [hg])]
  left
  unfold Oper.wp
  rw [hrun, enter_ok hf hb hn]
  simp only [Oper.upon_enter]
  refine h.mono ?_
  rintro e w' ⟨v, rfl, hk⟩
  exact hk

/-- From here on, from this very world, the function goes on to return so; what is told is told from its beginning. -/
def At (P : Program) (fn : FuncId) (m : Nat) (ρ0 : Rho) (M0 : List Blk) (w0 : World) (R : AV → List Blk → Prop) (b : Frame) (cs : List Frame) (todo : List Item) (a : Act) (w : World) : Prop :=
  ∃ v w' fr' ρ' r M', Steps P (lone (b.at a todo) cs w) (lone fr' cs w') ∧ fr'.fn = fn ∧ fr'.leaving P w' (.returned v) ∧ R r M' ∧ Den ρ' r v ∧
      AfterM m ρ0 M0 M' w0 w' ρ' ∧ ∀ i ∈ r.ids, i < M'.length
variable {fn : FuncId} {m : Nat} {R : AV → List Blk → Prop} {ρ0 : Rho} {M0 : List Blk} {w0 : World} {b : Frame} {cs : List Frame}
theorem At.step {todo todo' : List Item} {a : Act} {w : World} (h : step P (lone (b.at a todo) cs w) = .next (lone (b.at a todo') cs w)) (g : At P fn m ρ0 M0 w0 R b cs todo' a w) : At P fn m ρ0 M0 w0 R b cs todo a w := by
  obtain ⟨v, w', fr', ρ', r, M', hs, hg⟩ := g
  exact ⟨v, w', fr', ρ', r, M', .head h hs, hg⟩
theorem At.region {id : Nat} {ops : Array Oper} {draw : Bool} {k : List Item} {a : Act} {w : World}
    (h : (Code.region id ops draw).wp P (fun e a' w' => e = .normal ∧ At P fn m ρ0 M0 w0 R b cs k a' w') a w) : At P fn m ρ0 M0 w0 R b cs (.code (.region id ops draw) :: k) a w := by
  obtain ⟨e, a', w1, ⟨rfl, v, w', fr', ρ', r, M', hs, hg⟩, harr⟩ := h b k cs
  exact ⟨v, w', fr', ρ', r, M', .trans harr hs, hg⟩
theorem At.ops {id : Nat} {ops : Array Oper} {k : List Item} {a : Act} {w : World}
    (h : wpList P ops (fun e a' w' => e = .normal ∧ At P fn m ρ0 M0 w0 R b cs k a' w') ops.toList a w) : At P fn m ρ0 M0 w0 R b cs (.code (.region id ops false) :: k) a w := At.region (wp_region_list h)
theorem At.goes {todo : List Item} {fr : List AV} {M : List Blk} {ρ : Rho} {a : Act} {w : World} (g : Goes P fn m todo fr M R) (hA : After ρ0 M0 M w0 w ρ) (hm : m ≤ M0.length) (hb : b.fn = fn) (hk : b.kind = .normal) (hF : FRel ρ M.length fr a) (hd : a.defers = []) :
    At P fn m ρ0 M0 w0 R b cs todo a w := by
  obtain ⟨v, w', fr2, ρ', r, M2, hs, h1, h2, h3, h4, h5, h6⟩ := g ρ a w b cs (Nat.le_trans hm hA.len) hb hk hF hd hA.rel
  exact ⟨v, w', fr2, ρ', r, M2, hs, h1, h2, h3, h4, hA.comp hm h5, h6⟩
theorem Goes.of_at {todo : List Item} {fr : List AV} {M : List Blk} (h : ∀ (ρ : Rho) (a : Act) (w : World) (b : Frame) (cs : List Frame), m ≤ M.length → b.fn = fn → b.kind = .normal → FRel ρ M.length fr a → a.defers = [] → MRel ρ M w → At P fn m ρ M w R b cs todo a w) :
    Goes P fn m todo fr M R := h
end Go.Eng

/- The engine, part 28: code walked in a round's frame, and what lies aside of memory (the record of a loop over a function). No conditions. -/
namespace Go.Eng
open Go Go.RowKit
set_option linter.unusedSectionVars false
set_option linter.unusedSimpArgs false
variable [Glob]
variable {P : Program} {Γ : Tab}

/-- The widest fence, in a round or not. -/
def fenceR (r : Option Nat) : Fence := { fn := fun _ => True, depth := none, alive := false, round := r }
theorem fenceR_wide : fenceR none = Fence.wide := rfl
theorem fenceR_in (r : Option Nat) (l : Nat) : (fenceR r).inRound l = fenceR (some l) := rfl

def notDef (o : Oper) : Bool := match o.op with | .defer _ => false | _ => true
theorem notDef_ne {o : Oper} (h : notDef o = true) : ∀ c, o.op ≠ .defer c := fun c e => by unfold notDef at h; rw [e] at h; cases h

theorem callsR {r : Option Nat} {n : Nat} {f : FuncId} {args : Array Value} {w : World} {R : Ending → World → Prop} (h : Calls P f args w R) : CallsIn (fenceR r) n P f args w R :=
  (callsIn_wide (n := n)).2 h

theorem lift_op {r : Option Nat} {n : Nat} {o : Oper} {a : Act} {w : World} {next next' : Act → World → Prop} {Q Q' : Exit → Act → World → Prop} (hd : notDef o = true) (h : o.wp P a w next Q)
    (hn : ∀ a w, next a w → next' a w) (hQ : ∀ e a w, Q e a w → e = .normal) : o.wpIn (fenceR r) n P a w next' Q' := by
  refine ⟨fun _ _ => trivial, ?_⟩
  rw [Oper.semAt_eq _ _ _ (notDef_ne hd)]
  unfold Oper.wp at h
  generalize (execOp a.eval o).run P w = res at h
  unfold Oper.upon at h
  split at h
  · exact hn _ _ h
  · exact hn _ _ h
  · exact hn _ _ h
  · refine ⟨fun h => (by cases h), callsR (h.mono ?_)⟩
    intro e w' hh
    cases e with
    | returned v => exact hn _ _ hh
    | panicked c => cases hQ _ _ _ hh
    | outgrown => obtain ⟨a', w', q⟩ := hh; cases hQ _ _ _ q
  · refine ⟨fun h => (by cases h), fun c cs _ => ?_⟩
    obtain ⟨v, w', hr, hs⟩ := h c cs
    exact ⟨v, w', hn _ _ hr, (stepsIn_wide (P := P)).2 hs⟩
  · cases hQ _ _ _ h
  · exact h.elim

theorem lift_app {r : Option Nat} {n : Nat} {all : Array Oper} {Q0 Q : Exit → Act → World → Prop} {l2 : List Oper} (hno : ∀ e a w, Q0 e a w → e = .normal)
    (hQ : ∀ a w, Q0 .normal a w → wpListIn (fenceR r) n P all Q l2 a w) :
    ∀ (l : List Oper) (a : Act) (w : World), l.all notDef = true → wpList P all Q0 l a w → wpListIn (fenceR r) n P all Q (l ++ l2) a w := by
  intro l
  induction l with
  | nil => intro a w _ h; exact hQ a w h
  | cons o l ih =>
    intro a w hd h
    simp only [List.all_cons, Bool.and_eq_true] at hd
    show wpListIn (fenceR r) n P all Q (o :: (l ++ l2)) a w
    unfold wpListIn
    unfold wpList at h
    split at h
    · rename_i hw
      rw [if_pos hw]
      rcases h with h | ⟨-, a', w', q⟩
      · exact lift_op hd.1 h (fun a w => ih a w hd.2) hno
      · cases hno _ _ _ q
    · rename_i hw
      rw [if_neg hw]
      exact ⟨fun _ _ => trivial, ih _ _ hd.2 h⟩

theorem evOps_in (H : TabOk P Γ) {tb : FuncId → Option Fun} (htb : TbOk P tb) {wr : Bool} {all : Array Oper} {r : Option Nat} {n : Nat} {Q : Exit → Act → World → Prop} (k : Nat) {l : List Oper} {ρ : Rho} {fr fr' : List AV} {M M' : List Blk} {π π' : List Bool} {a : Act} {w : World} {vs : List Prop}
    (hF : FRel ρ M.length fr a) (hM : MRel ρ M w) (h : evOps Γ wr tb all (l.take k) fr M π = some (fr', M', π', vs)) (hv : allP vs) (hd : (l.take k).all notDef = true)
    (K : ∀ a' w' ρ', After ρ M M' w w' ρ' → FRel ρ' M'.length fr' a' → a'.defers = a.defers → wpListIn (fenceR r) n P all Q (l.drop k) a' w') : wpListIn (fenceR r) n P all Q l a w := by
  have := lift_app (r := r) (n := n) (all := all) (Q := Q) (l2 := l.drop k) (Q0 := fun e a' w' => e = .normal ∧ ∃ ρ', After ρ M M' w w' ρ' ∧ FRel ρ' M'.length fr' a' ∧ a'.defers = a.defers) (fun _ _ _ h => h.1)
    (fun a' w' ⟨_, ρ', h1, h2, h3⟩ => K a' w' ρ' h1 h2 h3) (l.take k) a w hd (evOps_sound H htb _ ρ fr M π a w _ _ _ _ hF hM h hv fun a' w' ρ' h1 h2 h3 => ⟨rfl, ρ', h1, h2, h3⟩)
  rwa [List.take_append_drop] at this

/-- A region in the text's order, in whatever frame. -/
theorem region_in (H : TabOk P Γ) {tb : FuncId → Option Fun} (htb : TbOk P tb) {wr : Bool} {id : Nat} {ops : Array Oper} {r : Option Nat} {n : Nat} {Q : Exit → Act → World → Prop} {ρ : Rho} {fr fr' : List AV} {M M' : List Blk} (π : List Bool) {π' : List Bool} {a : Act} {w : World} {vs : List Prop}
    (hF : FRel ρ M.length fr a) (hM : MRel ρ M w) (h : evOps Γ wr tb ops ops.toList fr M π = some (fr', M', π', vs)) (hv : allP vs) (hd : ops.toList.all notDef = true)
    (K : ∀ a' w' ρ', After ρ M M' w w' ρ' → FRel ρ' M'.length fr' a' → a'.defers = a.defers → Q .normal a' w') : (Code.region id ops false).wpIn (fenceR r) n P Q a w := by
  refine wpIn_region_list ?_
  have := lift_app (r := r) (n := n) (all := ops) (Q := Q) (l2 := []) (Q0 := fun e a' w' => e = .normal ∧ ∃ ρ', After ρ M M' w w' ρ' ∧ FRel ρ' M'.length fr' a' ∧ a'.defers = a.defers) (fun _ _ _ h => h.1)
    (fun a' w' ⟨_, ρ', h1, h2, h3⟩ => K a' w' ρ' h1 h2 h3) ops.toList a w hd (evOps_sound H htb _ ρ fr M π a w _ _ _ _ hF hM h hv fun a' w' ρ' h1 h2 h3 => ⟨rfl, ρ', h1, h2, h3⟩)
  rwa [List.append_nil] at this

/-- A region in open order, in a function's own frame. -/
theorem region_open (H : TabOk P Γ) {tb : FuncId → Option Fun} (htb : TbOk P tb) {wr : Bool} {id : Nat} {ops : Array Oper} {n : Nat} {Q : Exit → Act → World → Prop} {ρ : Rho} {fr fr' : List AV} {M M' : List Blk} (π : List Bool) {π' : List Bool} {a : Act} {w : World} {vs : List Prop}
    (hF : FRel ρ M.length fr a) (hM : MRel ρ M w) (h : evR Γ wr tb ops.toList fr M π = some (fr', M', π', vs)) (hv : allP vs)
    (K : ∀ a' w' ρ', After ρ M M' w w' ρ' → FRel ρ' M'.length fr' a' → a'.defers = a.defers → Q .normal a' w') : (Code.region id ops true).wpIn (fenceR none) n P Q a w := by
  refine (wpIn_wide (n := n)).2 ?_
  have h1 : (Code.region id ops true).wp P (fun e a' w' => e = .normal ∧ ∃ ρ', After ρ M M' w w' ρ' ∧ FRel ρ' M'.length fr' a' ∧ a'.defers = a.defers) a w :=
    evR_sound H htb hF hM h hv fun a' w' ρ' h1 h2 h3 => ⟨rfl, ρ', h1, h2, h3⟩
  refine Code.wp_mono ?_ h1
  rintro e a' w' ⟨rfl, ρ', h1, h2, h3⟩
  exact K a' w' ρ' h1 h2 h3

theorem cond_in {r : Option Nat} {n : Nat} {Q : Exit → Act → World → Prop} {ρ : Rho} {k : Nat} {fr fr' : List AV} (π : List Bool) {π' : List Bool} {bit : Bool} {x : Operand} {c d : Code} {a : Act} {w : World} {v : List Prop}
    (hF : FRel ρ k fr a) (h : condP fr π x = some (bit, fr', π', v)) (hv : allP v) (g : FRel ρ k fr' a → (if bit then c else d).wpIn (fenceR r) n P Q a w) : (Code.cond x c d).wpIn (fenceR r) n P Q a w := by
  obtain ⟨h1, h2⟩ := condP_sound hF h hv
  exact wpIn_cond h2 (g h1)

theorem loop_in {F : Fence} {n : Nat} {Q : Exit → Act → World → Prop} {c : Code} (I : Nat → Act → World → Prop) {i : Nat} {a : Act} {w : World} (h0 : I i a w)
    (round : ∀ i a w, I i a w → c.wpIn F n P (Exit.then (fun a' w' => ∃ j, j < i ∧ I j a' w') Q) a w) : (Code.loop c).wpIn F n P Q a w := by
  have ex : ∀ a w, (∃ i, I i a w) → ∃ m, I m a w ∧ ∀ j, I j a w → m ≤ j := by
    intro a w ⟨i, hi⟩
    induction i using Nat.strongRecOn with
    | _ i ih =>
      by_cases h : ∃ j, j < i ∧ I j a w
      · obtain ⟨j, hj, hI⟩ := h
        exact ih j hj hI
      · exact ⟨i, hi, fun j hj => Nat.le_of_not_lt fun hlt => h ⟨j, hlt, hj⟩⟩
  let μ : Act → World → Nat := fun a w => @dite _ (∃ i, I i a w) (Classical.propDecidable _) (fun h => Classical.choose (ex a w h)) (fun _ => 0)
  have hμ : ∀ a w, (∃ i, I i a w) → I (μ a w) a w ∧ ∀ j, I j a w → μ a w ≤ j := fun a w h => by
    have : μ a w = Classical.choose (ex a w h) := dif_pos h
    rw [this]
    exact Classical.choose_spec (ex a w h)
  refine wpIn_loop (fun a w => ∃ i, I i a w) μ ⟨i, h0⟩ fun a w hI => ?_
  obtain ⟨h1, -⟩ := hμ a w hI
  refine wpIn_mono (round _ a w h1) ?_
  intro e a' w' q
  cases e with
  | normal =>
    obtain ⟨j, hj, hI'⟩ := q
    exact ⟨⟨j, hI'⟩, Nat.lt_of_le_of_lt ((hμ a' w' ⟨j, hI'⟩).2 j hI') hj⟩
  | _ => exact q

/-- What lies aside of the blocks: neither cells nor a map. -/
def asideB : Obj → Bool
  | .cells .. => false
  | .map .. => false
  | _ => true
structure Offside (ρ : Rho) (k : Nat) (o : Obj) (w : World) : Prop where
  at_ : w.heap[k]? = some o
  bare : asideB o = true
  fr : ρ.F k = none
theorem Offside.off {ρ : Rho} {M : List Blk} {k : Nat} {o : Obj} {w : World} (h : Offside ρ k o w) (hM : MRel ρ M w) {id : Nat} (hl : liveAt M id) : (ρ id).blk ≠ k := by
  intro e
  obtain ⟨b, hb, hlv⟩ := hl
  have hr := hM.blk id b hb
  rw [e, h.at_] at hr
  have ha := h.bare
  cases b with
  | dead => cases hlv
  | c σ xs => obtain ⟨C, h1, -⟩ := hr; cases h1; cases ha
  | s l => obtain ⟨C, h1, -⟩ := hr; cases h1; cases ha
  | l σ rows => obtain ⟨C, h1, -⟩ := hr; cases h1; cases ha
  | rf σ rows => obtain ⟨C, h1, -⟩ := hr; cases h1; cases ha
  | r l => obtain ⟨C, h1, -⟩ := hr; cases h1; cases ha
  | m σ k es => obtain ⟨A, clk, h1, -⟩ := hr; cases h1; cases ha
theorem Offside.lt {ρ : Rho} {k : Nat} {o : Obj} {w : World} (h : Offside ρ k o w) : k < w.heap.size := (Array.getElem?_eq_some_iff.1 h.at_).1
theorem Offside.after {ρ ρ' : Rho} {M M' : List Blk} {k : Nat} {o : Obj} {w w' : World} (h : Offside ρ k o w) (hM : MRel ρ M w) (hA : After ρ M M' w w' ρ') : Offside ρ' k o w' := by
  refine ⟨(hA.frame k h.lt fun id hl => h.off hM hl).trans h.at_, h.bare, ?_⟩
  cases hf : ρ'.F k with
  | none => rfl
  | some x =>
    rcases hA.fnew k x hf with h1 | h1 | ⟨i, h1, h2⟩
    · rw [h.fr] at h1; cases h1
    · have := h.lt; omega
    · exact absurd h2 (h.off hM h1)
theorem Offside.put {ρ : Rho} {k : Nat} {o o' : Obj} {w : World} (h : Offside ρ k o w) (ha : asideB o' = true) : Offside ρ k o' (w.putObj k o') := ⟨World.putObj_heap_same h.lt, ha, h.fr⟩
theorem Offside.other {ρ : Rho} {k k' : Nat} {o o' : Obj} {w : World} (h : Offside ρ k o w) (hk : k ≠ k') : Offside ρ k o (w.putObj k' o') := ⟨(World.putObj_heap_other hk).trans h.at_, h.bare, h.fr⟩
theorem After.put {ρ ρ' : Rho} {M M' : List Blk} {k : Nat} {o : Obj} {w w' : World} (hA : After ρ M M' w w' ρ') (h : Offside ρ' k o w') (hk : w.heap.size ≤ k) (o' : Obj) : After ρ M M' w (w'.putObj k o') ρ' where
  ext := hA.ext
  rel := {
    blk := fun id b hb => by
      cases hlv : b.live with
      | true =>
        rw [World.putObj_heap_other (h.off hA.rel ⟨b, hb, hlv⟩)]
        exact hA.rel.blk id b hb
      | false => cases b <;> first | trivial | cases hlv
    inj := hA.rel.inj
    cl := hA.rel.cl
    env := fun j x hj => by
      refine ⟨?_, (hA.rel.env j x hj).2⟩
      rw [World.putObj_heap_other (fun e => by subst e; rw [h.fr] at hj; cases hj)]
      exact (hA.rel.env j x hj).1 }
  len := hA.len
  dead := hA.dead
  fresh := hA.fresh
  frame := fun b hb hn => (World.putObj_heap_other (by omega)).trans (hA.frame b hb hn)
  os := hA.os
  tape := hA.tape
  output := hA.output
  size := by rw [World.putObj_size]; exact hA.size
  fmono := hA.fmono
  fnew := hA.fnew
theorem After.lay {ρ ρ' : Rho} {M M' : List Blk} {w w' : World} (hA : After ρ M M' w w' ρ') (o : Obj) : After ρ M M' w (w'.alloc o) ρ' where
  ext := hA.ext
  rel := {
    blk := fun id b hb => by
      cases hlv : b.live with
      | true =>
        have hlt := hA.rel.blk_lt ⟨b, hb, hlv⟩
        rw [show (w'.alloc o).heap[(ρ' id).blk]? = w'.heap[(ρ' id).blk]? from Below.heap_alloc w' o _ hlt]
        exact hA.rel.blk id b hb
      | false => cases b <;> first | trivial | cases hlv
    inj := hA.rel.inj
    cl := hA.rel.cl
    env := fun j x hj => by
      obtain ⟨h1, h2⟩ := hA.rel.env j x hj
      exact ⟨(Below.heap_alloc w' o _ (Array.getElem?_eq_some_iff.1 h1).1).trans h1, h2⟩ }
  len := hA.len
  dead := hA.dead
  fresh := hA.fresh
  frame := fun b hb hn => (Below.heap_alloc w' o _ (Nat.lt_of_lt_of_le hb hA.size)).trans (hA.frame b hb hn)
  os := hA.os
  tape := hA.tape
  output := hA.output
  size := Nat.le_trans hA.size (by rw [World.size_alloc]; omega)
  fmono := hA.fmono
  fnew := hA.fnew
theorem Offside.new {ρ ρ0 : Rho} {M0 M : List Blk} {w0 w : World} (hA : After ρ0 M0 M w0 w ρ) (o : Obj) (ha : asideB o = true) : Offside ρ w.heap.size o (w.alloc o) := by
  refine ⟨World.alloc_heap_new w o, ha, ?_⟩
  cases hf : ρ.F w.heap.size with
  | none => rfl
  | some x =>
    have := (Array.getElem?_eq_some_iff.1 (hA.rel.env _ _ hf).1).1
    omega
theorem Offside.lay {ρ : Rho} {k : Nat} {o : Obj} {w : World} (h : Offside ρ k o w) (o' : Obj) : Offside ρ k o (w.alloc o') := ⟨(Below.heap_alloc w o' _ h.lt).trans h.at_, h.bare, h.fr⟩

/-- Memory and a frame, renumbered: what is not reached is dropped. -/
theorem ren_rel {ρ0 ρ : Rho} {M' M : List Blk} {w0 w : World} (σ : List Nat) (hA : After ρ0 [] M w0 w ρ) (h1 : σ.length = M'.length) (h3 : nodupB σ = true) (hb : finB σ M 0 M') (hc : closedB M' = true) :
    After ρ0 [] M' w0 w (ρ.ren fun i => σ.getD i 0) := by
  have hlive : ∀ i, liveAt M' i → liveAt M (σ.getD i 0) := by
    rintro i ⟨b, hb', hl⟩
    rcases finB_get hb i b hb' with rfl | h'
    · cases hl
    · rw [Nat.zero_add] at h'
      exact ⟨_, h', by rw [live_mapI]; exact hl⟩
  have hinj := nodupB_inj σ h3
  refine ⟨fun id h => absurd h (Nat.not_lt_zero _), ⟨?_, ?_, ?_, fun k o hk => ⟨(hA.rel.env k o hk).1, fun i hi => (hA.rel.env k o hk).2 _ (hlive i hi)⟩⟩, Nat.zero_le _, fun id h => absurd h (Nat.not_lt_zero _), fun id _ hl => ?_, hA.frame, hA.os, hA.tape, hA.output, hA.size, hA.fmono, hA.fnew⟩
  · intro j b hb'
    rcases finB_get hb j b hb' with rfl | h'
    · trivial
    · rw [Nat.zero_add] at h'
      exact (brel_mapI (f := fun i => σ.getD i 0)).1 (hA.rel.blk _ _ h')
  · intro i j hi hj e
    exact hinj i j (by rw [h1]; exact hi.lt) (by rw [h1]; exact hj.lt) (hA.rel.inj _ _ (hlive i hi) (hlive j hj) e)
  · intro id vs hid x hx i hi
    have := List.all_eq_true.1 hc _ (List.mem_of_getElem? hid)
    simp only at this
    have := List.all_eq_true.1 this x hx
    exact of_decide_eq_true (List.all_eq_true.1 this i hi)
  · rcases hA.fresh _ (Nat.zero_le _) (hlive id hl) with h | ⟨i, h, -⟩
    · exact .inl h
    · exact absurd h (Nat.not_lt_zero _)

theorem seq_in (H : TabOk P Γ) {tb : FuncId → Option Fun} (htb : TbOk P tb) {wr : Bool} {id : Nat} {ops : Array Oper} {c2 : Code} {r : Option Nat} {n : Nat} {Q : Exit → Act → World → Prop} {ρ : Rho} {fr fr' : List AV} {M M' : List Blk} (π : List Bool) {π' : List Bool} {a : Act} {w : World} {vs : List Prop}
    (hF : FRel ρ M.length fr a) (hM : MRel ρ M w) (h : evOps Γ wr tb ops ops.toList fr M π = some (fr', M', π', vs)) (hv : allP vs) (hd : ops.toList.all notDef = true)
    (K : ∀ a' w' ρ', After ρ M M' w w' ρ' → FRel ρ' M'.length fr' a' → a'.defers = a.defers → c2.wpIn (fenceR r) n P Q a' w') : (Code.seq (.region id ops false) c2).wpIn (fenceR r) n P Q a w :=
  wpIn_seq (region_in H htb π hF hM h hv hd K)

theorem FRel.weak {ρ : Rho} {n : Nat} {fr fr' : List AV} {a : Act} (hF : FRel ρ n fr a) (hf : leF fr' fr) : FRel ρ n fr' a := by
  refine ⟨by rw [leF_len hf]; exact hF.size, fun t => ?_, fun t => ?_⟩
  · rcases leF_get hf t with h | h
    · rw [h]; trivial
    · exact sameA_den h (hF.den t)
  · rcases leF_get hf t with h | h
    · rw [h]; simp [AV.ids]
    · rw [sameA_ids h]; exact hF.ids t
theorem FRel.keep {ρ ρ' : Rho} {n n' : Nat} {fr : List AV} {a : Act} (ok : Nat → Bool) (h : FRel ρ n fr a) (hle : ρ.le ρ') (hb : (fr.all fun x => x.ids.all ok) = true) (he : ∀ i, ok i = true → ρ' i = ρ i ∧ i < n') : FRel ρ' n' fr a := by
  have key : ∀ t, ∀ i ∈ (fr.getD t .any).ids, ρ' i = ρ i ∧ i < n' := fun t i hi => by
    rcases Nat.lt_or_ge t fr.length with hl | hl
    · rw [List.getD_eq_getElem?_getD, List.getElem?_eq_getElem hl] at hi
      exact he i (List.all_eq_true.1 (List.all_eq_true.1 hb _ (List.getElem_mem hl)) i hi)
    · rw [List.getD_eq_getElem?_getD, List.getElem?_eq_none hl] at hi
      cases hi
  exact ⟨h.size, fun t => Den.congr hle (fun i hi => (key t i hi).1) (h.den t), fun t i hi => (key t i hi).2⟩
theorem FRel.at {ρ : Rho} {n : Nat} {fr : List AV} {a : Act} (hF : FRel ρ n fr a) (t : Nat) {x : AV} (e : fr.getD t .any = x) : Den ρ x (a.tmps.getD t undef) := e ▸ hF.den t
theorem FRel.same {ρ : Rho} {n : Nat} {fr : List AV} {a a' : Act} (hF : FRel ρ n fr a) (h : a'.tmps = a.tmps) : FRel ρ n fr a' := ⟨by rw [h]; exact hF.size, fun t => by rw [h]; exact hF.den t, hF.ids⟩
theorem frel_enter {ρ : Rho} {k N : Nat} {args : List AV} {vals : List Value} (hd : Dens ρ args vals) (hids : ∀ x ∈ args, ∀ i ∈ x.ids, i < k) :
    FRel ρ k (args ++ List.replicate (N - args.length) .any) { tmps := vals.toArray ++ Array.replicate (N - vals.toArray.size) undef, defers := [] } := by
  have hl := dens_len hd
  rw [undefs, List.append_toArray]
  refine ⟨by simp [hl], fun t => ?_, fun t => ?_⟩
  · rw [show ∀ (l : List Value), l.toArray.getD t undef = l.getD t undef from fun l => by
      rw [Array.getD_eq_getD_getElem?, List.getElem?_toArray, List.getD_eq_getElem?_getD]]
    rcases Nat.lt_or_ge t args.length with h | h
    · rw [getD_left h, getD_left (l := vals) (hl ▸ h)]
      exact dens_get hd t h
    · rw [getD_right h, getD_rep]
      trivial
  · rcases Nat.lt_or_ge t args.length with h | h
    · rw [getD_left h]
      rw [List.getD_eq_getElem?_getD, List.getElem?_eq_getElem h]
      exact hids _ (List.getElem_mem h)
    · rw [getD_right h, getD_rep]
      simp [AV.ids]
theorem AfterM.of {ρ ρ' : Rho} {M M' : List Blk} {w w' : World} (h : After ρ M M' w w' ρ') : AfterM M.length ρ M M' w w' ρ' where
  ext := h.ext
  rel := h.rel
  len := h.len
  dead := h.dead
  fresh := fun id hid hl => (h.fresh id hid hl).imp_right fun ⟨i, _, h1, h2⟩ => ⟨i, h1, h2⟩
  frame := h.frame
  os := h.os
  tape := h.tape
  output := h.output
  size := h.size
  fmono := h.fmono
  fnew := h.fnew
/-- A function on its way out, with the mark of a loop over a function among its deferred calls. -/
theorem leaves_mark {r : Option Nat} {n : Nat} {f : Func} {tmps : Array Value} {R : Ending → World → Prop} {D : Nat} {w : World} {v : Value} (hD : w.heap[D]? = some (.deferred (some [])))
    (hr : (results f tmps).run P (w.putObj D (.deferred none)) = .ok v (w.putObj D (.deferred none))) (hR : R (.returned v) (w.putObj D (.deferred none))) :
    LeavesInM (fenceR r) n P f tmps R [{ target := .collected D, args := #[] }] .returning w :=
  ⟨by simp, .inl ⟨D, _, rfl, run_takeDeferred hD, ⟨v, hr, hR⟩⟩⟩
theorem wp_yield {all : Array Oper} {Q : Exit → Act → World → Prop} {o : Oper} {rest : List Oper} {c : Call} {x : Operand} {l n : Nat} {vals : Array Value} {a : Act} {w : World} {f : FuncId} {tmps : Array Value} {asg body : Code} (hg : o.guard = .none) (ho : o.op = .call c) (hc : c.callee = .value x)
    (hx : a.eval x = .func (.yield l) #[] #[]) (hv : c.args.map a.eval = vals) (hy : (Instr.yield l vals).run P w = .ok (.round l f tmps asg body) w)
    (h : RoundIn (fenceR none) (n - 1) P l f tmps asg body w fun e w' => ∃ v, e = .returned v ∧ wpListIn (fenceR none) n P all Q rest (a.put o.dst v) w') : wpListIn (fenceR none) n P all Q (o :: rest) a w := by
  have hrun : (execOp a.eval o).run P w = .ok (.round l f tmps asg body) w := by
    simp only [execOp, ho, resolve, hc, hx, Deferred.ofValue, Sem.run_bind, Sem.run_pure, Result.andThen_ok, invoke, hv]
    simp [hy]
  unfold wpListIn
  rw [if_pos (by unfold Region.wanted; rw [hg])]
  refine ⟨fun _ _ => trivial, ?_⟩
  show o.uponIn (fenceR none) n P a _ Q ((execOp a.eval o).run P w)
  rw [hrun, Oper.uponIn_round]
  refine ⟨fun h => (by cases h), h.mono ?_⟩
  rintro e w' ⟨v, rfl, hk⟩
  exact hk
/-- A range over a function: the record is laid, the iterator called. -/
theorem range_in {gf : FuncId} {lb : Array Value} {g : Operand} {ps : Array Tmp} {asg body : Code} {Q : Exit → Act → World → Prop} {n : Nat} {a : Act} {w : World} (hg : a.eval g = .func (.func gf) #[] lb)
    (eg : ∀ args w, (callFunc gf args).run P w = .ok (.enter gf args) w)
    (h : ∀ fn, CallsIn (fenceR none) (n - 1) P gf (#[.func (.yield (w.heap.size + 1)) #[] #[]] ++ lb)
      ((w.alloc (.deferred (some []))).alloc (.loop { state := .ready, pending := none, fn, tmps := a.tmps, params := ps, assign := asg, body, defers := w.heap.size }))
      (rangePost (fenceR none) n P (w.heap.size + 1) Q { a with defers := { target := .collected w.heap.size, args := #[] } :: a.defers })) :
    (Code.rangeFunc g ps asg body).wpIn (fenceR none) n P Q a w := by
  refine wpIn_rangeFunc ?_
  intro fn _
  have hh := h fn
  have he := run_enterLoop_outer (P := P) (w := w) fn a.tmps ps asg body
  generalize (w.alloc (.deferred (some []))).alloc (.loop { state := .ready, pending := none, fn, tmps := a.tmps, params := ps, assign := asg, body, defers := w.heap.size }) = W1 at hh he
  have hr : (resolve a.eval (rangeCall g (w.heap.size + 1)) 0).run P W1 = .ok { target := .fn (.func gf) lb, args := #[.func (.yield (w.heap.size + 1)) #[] #[]] } W1 := by
    simp only [resolve, hg]
    simp [go_sem]
  have hi : (invoke (.fn (.func gf) lb) #[.func (.yield (w.heap.size + 1)) #[] #[]]).run P W1 = .ok (.enter gf (#[.func (.yield (w.heap.size + 1)) #[] #[]] ++ lb)) W1 := by
    simp [invoke, go_sem, eg]
  exact ⟨_, _, W1, _, W1, gf, _, W1, he, hr, fun _ _ => trivial, hi, fun h => (by cases h), hh⟩
end Go.Eng
