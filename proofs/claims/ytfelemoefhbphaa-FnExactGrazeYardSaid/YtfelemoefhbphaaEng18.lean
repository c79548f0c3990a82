/- The engine, part 18: from a body's run to what is told of the function. No conditions. -/
import Derived.Test.YtfelemoefhbphaaEng17
namespace Go.Eng
open Go Go.RowKit
variable {P : Program} {Γ : Tab} {R : AV → List Blk → Prop}

/-- The blocks that the caller is told of are those of the list, renumbered. -/
def finB (σ : List Nat) (N : List Blk) : Nat → List Blk → Prop
  | _, [] => True
  | j, b :: l => (match b with
    | .dead => True
    | b => N[σ.getD j 0]? = some (b.mapI fun i => σ.getD i 0)) ∧ finB σ N (j + 1) l

def closedB (M : List Blk) : Bool := M.all fun b => match b with
  | .r vs => vs.all fun x => x.ids.all fun i => decide (i < M.length)
  | _ => true

structure Fin (σ : List Nat) (m : Nat) (r' : AV) (N : List Blk) (r : AV) (M' : List Blk) : Prop where
  len : σ.length = M'.length
  le : m ≤ M'.length
  take : σ.take m = List.range m
  nodup : nodupB σ = true
  res : sameA (r.mapI (fun i => σ.getD i 0)) r'
  blks : finB σ N 0 M'
  ids : (r.ids.all fun i => decide (i < M'.length)) = true
  closed : closedB M' = true

theorem finB_get {σ : List Nat} {N : List Blk} : ∀ {l : List Blk} {k : Nat}, finB σ N k l → ∀ (j : Nat) (b : Blk), l[j]? = some b → b = .dead ∨ N[σ.getD (k + j) 0]? = some (b.mapI fun i => σ.getD i 0)
  | b :: l, k, h, 0, b', hb => by
    simp only [List.getElem?_cons_zero, Option.some.injEq] at hb
    subst hb
    have := h.1
    cases b with
    | dead => exact .inl rfl
    | _ => exact .inr this
  | b :: l, k, h, j + 1, b', hb => by
    have := finB_get h.2 j b' (by simpa using hb)
    rwa [show k + 1 + j = k + (j + 1) from by omega] at this
  | [], _, _, _, _, hb => by simp at hb

theorem Fin.after {σ : List Nat} {r' r : AV} {N M' M : List Blk} (h : Fin σ M.length r' N r M') {ρ ρ1 : Rho} {w w' : World} (hA : AfterM M.length ρ M N w w' ρ1) :
    After ρ M M' w w' (ρ1.ren fun i => σ.getD i 0) := by
  have hid : ∀ i, i < M.length → σ.getD i 0 = i := by
    intro i hi
    have h1 : (σ.take M.length)[i]? = some i := by rw [h.take, List.getElem?_range hi]
    rw [List.getElem?_take_of_lt hi] at h1
    rw [List.getD_eq_getElem?_getD, h1]; rfl
  have hlive : ∀ i, liveAt M' i → liveAt N (σ.getD i 0) := by
    rintro i ⟨b, hb, hl⟩
    rcases finB_get h.blks i b hb with rfl | h'
    · cases hl
    · rw [Nat.zero_add] at h'
      exact ⟨_, h', by rw [live_mapI]; exact hl⟩
  have hinj := nodupB_inj σ h.nodup
  refine ⟨fun id hid' => by simp only [Rho.ren, hid id hid']; exact hA.ext id hid', ⟨?_, ?_, ?_, fun k o hk => ⟨(hA.rel.env k o hk).1, fun i hi => (hA.rel.env k o hk).2 _ (hlive i hi)⟩⟩, h.le, ?_, ?_, hA.frame, hA.os, hA.tape, hA.output, hA.size, hA.fmono, hA.fnew⟩
  · intro j b hb
    rcases finB_get h.blks j b hb with rfl | h'
    · trivial
    · rw [Nat.zero_add] at h'
      have := hA.rel.blk _ _ h'
      exact (brel_mapI (f := fun i => σ.getD i 0)).1 this
  · intro i j hi hj e
    exact hinj i j (by rw [h.len]; exact hi.lt) (by rw [h.len]; exact hj.lt) (hA.rel.inj _ _ (hlive i hi) (hlive j hj) e)
  · intro id vs hid x hx i hi
    have := List.all_eq_true.1 h.closed _ (List.mem_of_getElem? hid)
    simp only at this
    have := List.all_eq_true.1 this x hx
    have := List.all_eq_true.1 this i hi
    exact of_decide_eq_true this
  · intro id hlt hl
    have := hlive id hl
    rw [hid id hlt] at this
    exact hA.dead id hlt this
  · intro id hge hl
    have h1 := hlive id hl
    refine (hA.fresh _ ?_ h1).imp_right fun ⟨i, g1, g2⟩ => ⟨i, g1.lt, g1, g2⟩
    rcases Nat.lt_or_ge (σ.getD id 0) M.length with h2 | h2
    · exfalso
      have := hinj id (σ.getD id 0) (by rw [h.len]; exact hl.lt) (by rw [h.len]; exact Nat.lt_of_lt_of_le h2 h.le) (hid _ h2).symm
      rw [← this] at h2
      omega
    · exact h2

/-- At a loop's head: memory is renumbered, and what is not reached is dropped. -/
theorem Goes.renum {fn : FuncId} {m : Nat} {todo : List Item} {fr fr' : List AV} {M M' : List Blk} (σ : List Nat) (h1 : σ.length = M'.length) (h2 : σ.take m = List.range m) (h3 : nodupB σ = true)
    (hf : leF (fr'.map (AV.mapI fun i => σ.getD i 0)) fr) (hb : finB σ M 0 M') (hi : (fr'.all fun x => x.ids.all fun i => decide (i < M'.length)) = true) (hc : closedB M' = true) (hm' : m ≤ M'.length)
    (g : Goes P fn m todo fr' M' R) : Goes P fn m todo fr M R := by
  intro ρ a w b cs hm0 hbf hk hF hd hM
  have hid : ∀ i, i < m → σ.getD i 0 = i := by
    intro i hi
    have h1 : (σ.take m)[i]? = some i := by rw [h2, List.getElem?_range hi]
    rw [List.getElem?_take_of_lt hi] at h1
    rw [List.getD_eq_getElem?_getD, h1]; rfl
  have hlive : ∀ i, liveAt M' i → liveAt M (σ.getD i 0) := by
    rintro i ⟨b, hb', hl⟩
    rcases finB_get hb i b hb' with rfl | h'
    · cases hl
    · rw [Nat.zero_add] at h'
      exact ⟨_, h', by rw [live_mapI]; exact hl⟩
  have hinj := nodupB_inj σ h3
  have hM' : MRel (ρ.ren fun i => σ.getD i 0) M' w := by
    refine ⟨?_, ?_, ?_, fun k o hk => ⟨(hM.env k o hk).1, fun i hi => (hM.env k o hk).2 _ (hlive i hi)⟩⟩
    · intro j b hb'
      rcases finB_get hb j b hb' with rfl | h'
      · trivial
      · rw [Nat.zero_add] at h'
        exact (brel_mapI (f := fun i => σ.getD i 0)).1 (hM.blk _ _ h')
    · intro i j hi hj e
      exact hinj i j (by rw [h1]; exact hi.lt) (by rw [h1]; exact hj.lt) (hM.inj _ _ (hlive i hi) (hlive j hj) e)
    · intro id vs hid x hx i hi
      have := List.all_eq_true.1 hc _ (List.mem_of_getElem? hid)
      simp only at this
      have := List.all_eq_true.1 this x hx
      exact of_decide_eq_true (List.all_eq_true.1 this i hi)
  have hget : ∀ t, (fr'.map (AV.mapI fun i => σ.getD i 0)).getD t .any = (fr'.getD t .any).mapI fun i => σ.getD i 0 := by
    intro t
    rw [List.getD_eq_getElem?_getD, List.getD_eq_getElem?_getD, List.getElem?_map]
    cases fr'[t]? <;> rfl
  have hF' : FRel (ρ.ren fun i => σ.getD i 0) M'.length fr' a := by
    refine ⟨by rw [hF.size, ← leF_len hf, List.length_map], fun t => ?_, fun t i hi' => ?_⟩
    · have := leF_get hf t
      rw [hget] at this
      rw [← den_mapI ρ (fun i => σ.getD i 0)]
      rcases this with h | h
      · rw [h]; trivial
      · exact sameA_den h (hF.den t)
    · rcases Nat.lt_or_ge t fr'.length with h | h
      · rw [List.getD_eq_getElem?_getD, List.getElem?_eq_getElem h] at hi'
        exact of_decide_eq_true (List.all_eq_true.1 (List.all_eq_true.1 hi _ (List.getElem_mem h)) i hi')
      · rw [List.getD_eq_getElem?_getD, List.getElem?_eq_none h] at hi'
        cases hi'
  obtain ⟨v, w', fr2, ρ', r, M2, hs, g1, g2, g3, g4, g5, g6⟩ := g _ a w b cs hm' hbf hk hF' hd hM'
  refine ⟨v, w', fr2, ρ', r, M2, hs, g1, g2, g3, g4, ⟨fun id hid' => by rw [g5.ext id hid']; simp only [Rho.ren, hid id hid'], g5.rel, g5.len, fun id hid' hl => ?_, fun id hid' hl => ?_, fun b hb hn => g5.frame b hb fun id hl => hn _ (hlive id hl), g5.os, g5.tape, g5.output, g5.size, g5.fmono, fun k o hk => (g5.fnew k o hk).imp_right (Or.imp_right fun ⟨i, q1, q2⟩ => ⟨_, hlive i q1, q2⟩)⟩, g6⟩
  · have := hlive id (g5.dead id hid' hl)
    rwa [hid id hid'] at this
  · exact (g5.fresh id hid' hl).imp_right fun ⟨i, q1, q2⟩ => ⟨_, hlive i q1, q2⟩

theorem undefs (n : Nat) : Array.replicate n undef = (List.replicate n undef).toArray := by simp

theorem dens_len {ρ : Rho} : ∀ {l : List AV} {r : List Value}, Dens ρ l r → l.length = r.length
  | [], [], _ => rfl
  | [], _ :: _, h => h.elim
  | _ :: _, [], h => h.elim
  | _ :: _, _ :: _, h => by simp [dens_len h.2]

theorem dens_get {ρ : Rho} : ∀ {l : List AV} {r : List Value}, Dens ρ l r → ∀ t, t < l.length → Den ρ (l.getD t .any) (r.getD t undef)
  | _ :: _, _ :: _, h, 0, _ => by simpa using h.1
  | _ :: _, _ :: _, h, t + 1, ht => by simpa using dens_get h.2 t (by simpa using ht)
  | [], _, _, _, ht => by simp at ht
  | _ :: _, [], h, _, _ => h.elim

theorem getD_left {α : Type} {l l' : List α} {t : Nat} {x : α} (h : t < l.length) : (l ++ l').getD t x = l.getD t x := by
  rw [List.getD_eq_getElem?_getD, List.getElem?_append_left h, List.getD_eq_getElem?_getD]

theorem getD_right {α : Type} {l l' : List α} {t : Nat} {x : α} (h : l.length ≤ t) : (l ++ l').getD t x = l'.getD (t - l.length) x := by
  rw [List.getD_eq_getElem?_getD, List.getElem?_append_right h, List.getD_eq_getElem?_getD]

theorem getD_rep {α : Type} (n t : Nat) (x : α) : (List.replicate n x).getD t x = x := by
  rw [List.getD_eq_getElem?_getD, List.getElem?_replicate]
  split <;> rfl

theorem SpecOK.of_goes {f : FuncId} {F : Func} {body : Code} {args : List AV} {M M' : List Blk} {r : AV} (σ : List Nat) (hf : P.funcs[f]? = some F) (hb : F.body = some body)
    (g : Goes P f M.length [.code body] (args ++ List.replicate (F.ntmps - args.length) .any) M fun r' N => Fin σ M.length r' N r M') : SpecOK P f args M r M' := by
  intro ρ vals w hd hM hids cs
  let b : Frame := { (default : Frame) with fn := f, kind := .normal }
  have henter : Frame.enter P f vals.toArray .normal =
      b.at { tmps := vals.toArray ++ Array.replicate (F.ntmps - vals.toArray.size) undef, defers := [] } [.code body] := by
    simp [Frame.enter, Frame.at, hf, hb, b]
  have hl := dens_len hd
  have hF : FRel ρ M.length (args ++ List.replicate (F.ntmps - args.length) .any) { tmps := vals.toArray ++ Array.replicate (F.ntmps - vals.toArray.size) undef, defers := [] } := by
    rw [undefs, List.append_toArray]
    refine ⟨by simp [hl], fun t => ?_, fun t => ?_⟩
    · rw [show ∀ (l : List Value), l.toArray.getD t undef = l.getD t undef from fun l => by
        rw [Array.getD_eq_getD_getElem?, List.getElem?_toArray, List.getD_eq_getElem?_getD]]
      rcases Nat.lt_or_ge t args.length with h | h
      · rw [getD_left h, getD_left (l := vals) (hl ▸ h)]
        exact dens_get hd t h
      · rw [getD_right h, getD_rep]
        trivial
    · rcases Nat.lt_or_ge t args.length with h | h
      · rw [getD_left h]
        rw [List.getD_eq_getElem?_getD, List.getElem?_eq_getElem h]
        exact hids _ (List.getElem_mem h)
      · rw [getD_right h, getD_rep]
        simp [AV.ids]
  obtain ⟨v, w', fr', ρ1, r', N, hs, h1, h2, h3, h4, h5, h6⟩ := g ρ _ w b cs (Nat.le_refl _) rfl rfl hF rfl hM
  rw [← henter] at hs
  refine ⟨.returned v, w', fr', ⟨v, _, rfl, ?_, h3.after h5, ?_⟩, hs, h1, h2⟩
  · rw [← den_mapI ρ1 (fun i => σ.getD i 0)]
    exact sameA_den h3.res h4
  · intro i hi
    exact of_decide_eq_true (List.all_eq_true.1 h3.ids i hi)

def RowsOk (σ : Sg) (rows : List (List Int)) : Prop := ∀ row ∈ rows, row.length = σ.n ∧ cellsOk σ.flat row

theorem rowAt_ok {C : Array Value} {σ : Sg} {o : Nat} {row : List Int} (h : rowAt C σ o row) : row.length = σ.n ∧ cellsOk σ.flat row := by
  refine ⟨h.1, cellsOk_ext fun j x k hx hk => ?_⟩
  have := (h.2 j x hx).2
  rw [List.getD_eq_getElem?_getD, hk] at this
  exact this

theorem rowsAt_ok {C : Array Value} {σ : Sg} {o : Nat} {rows : List (List Int)} (h : rowsAt C σ o rows) : RowsOk σ rows := by
  intro row hr
  obtain ⟨i, hi, e⟩ := List.getElem_of_mem hr
  exact rowAt_ok (h i row (by rw [List.getElem?_eq_getElem hi, e]))

theorem FS_ok {F : Nat → Option Obj} {σ : Sg} {rows : List (List Int)} {x : Value} (h : FS F σ rows x) : rows.length ≤ maxLen ∧ RowsOk σ rows := by
  obtain ⟨h1, h2, h3, a, cap, h4, h5, h6⟩ := h
  refine ⟨h3, ?_⟩
  rcases h6 with rfl | ⟨k, o, C, ty, fz, g1, g2, g3⟩
  · intro row hr; cases hr
  · exact rowsAt_ok g3

theorem FSS_ok {F : Nat → Option Obj} {σ : Sg} {rowss : List (List (List Int))} {x : Value} (h : FSS F σ rowss x) : rowss.length ≤ maxLen ∧ ∀ rows ∈ rowss, rows.length ≤ maxLen ∧ RowsOk σ rows := by
  obtain ⟨h3, a, cap, h4, h5, h6⟩ := h
  refine ⟨h3, ?_⟩
  rcases h6 with rfl | ⟨k, o, C, ty, fz, g1, g2, g3⟩
  · intro row hr; cases hr
  · intro rows hr
    obtain ⟨i, hi, e⟩ := List.getElem_of_mem hr
    obtain ⟨y, -, hy⟩ := g3 i rows (by rw [List.getElem?_eq_getElem hi, e])
    exact FS_ok hy

theorem FStr_ok {F : Nat → Option Obj} {l : List ByteArray} {x : Value} (h : FStr F l x) : l.length ≤ maxLen ∧ ∀ s ∈ l, s.size ≤ maxLen := by
  obtain ⟨h3, a, cap, h4, h5, h6⟩ := h
  refine ⟨h3, ?_⟩
  rcases h6 with rfl | ⟨k, o, C, ty, fz, g1, g2, g3⟩
  · intro row hr; cases hr
  · intro s hr
    obtain ⟨i, hi, e⟩ := List.getElem_of_mem hr
    exact (g3 i s (by rw [List.getElem?_eq_getElem hi, e])).2

/-- What the arguments are known to be. -/
def factsA (M : List Blk) : AV → List Prop
  | .i k n => [rng k n]
  | .s s => [s.size ≤ maxLen]
  | .ag σ xs => [xs.length = σ.n, cellsOk σ.flat xs]
  | .p id off σ => [off + σ.n ≤ (match M[id]? with | some (.c _ xs) => xs.length | some (.s xs) => xs.length | some (.r xs) => xs.length | _ => off + σ.n)]
  | .pw id σ => [(match M[id]? with | some (.c _ xs) => xs.length | some (.s xs) => xs.length | some (.r xs) => xs.length | _ => σ.n) = σ.n]
  | .ow id len σ _ => [(match M[id]? with | some (.l _ xs) => xs.length | some (.s xs) => xs.length | some (.rf _ xs) => xs.length | _ => len) = len, len ≤ maxLen]
  | .fs σ rows => [rows.length ≤ maxLen, RowsOk σ rows]
  | .fp _ σ _ xs => [xs.length = σ.n, cellsOk σ.flat xs]
  | .fz σ rowss => [rowss.length ≤ maxLen, ∀ rows ∈ rowss, rows.length ≤ maxLen ∧ RowsOk σ rows]
  | .fstr l => [l.length ≤ maxLen, ∀ s ∈ l, s.size ≤ maxLen]
  | .sl id off len σ => [off + len * σ.n ≤ (match M[id]? with | some (.c _ xs) => xs.length | some (.s xs) => xs.length | some (.r xs) => xs.length | _ => off + len * σ.n)]
  | _ => []

def factsB : Blk → List Prop
  | .l σ rows => [RowsOk σ rows]
  | .rf σ rowss => [∀ rows ∈ rowss, rows.length ≤ maxLen ∧ RowsOk σ rows]
  | .c σ xs => [∀ j x, xs[j]? = some x → (σ.flat.getD (j % σ.n) .bool).ok x]
  | .s ss => [∀ (j : Nat) (x : ByteArray), ss[j]? = some x → x.size ≤ maxLen]
  | _ => []

def factsL (M : List Blk) : List AV → List Prop
  | [] => []
  | x :: l => factsA M x ++ factsL M l

def factsM : List Blk → List Prop
  | [] => []
  | b :: l => factsB b ++ factsM l

theorem factsA_ok {ρ : Rho} {M : List Blk} {w : World} (hM : MRel ρ M w) {x : AV} {v : Value} (h : Den ρ x v) : allP (factsA M x) := by
  have key : ∀ id d, (∃ n, (match M[id]? with | some (.c _ xs) => xs.length | some (.s xs) => xs.length | some (.r xs) => xs.length | _ => d) = n ∧ (n = (ρ id).size ∨ n = d)) := by
    intro id d
    cases h : M[id]? with
    | none => exact ⟨_, rfl, .inr rfl⟩
    | some b =>
      have := hM.blk id b h
      cases b with
      | dead => exact ⟨_, rfl, .inr rfl⟩
      | c σ xs => obtain ⟨C, -, -, -, -, -, hl, -⟩ := this; exact ⟨_, rfl, .inl hl⟩
      | s ss => obtain ⟨C, -, -, -, hl, -⟩ := this; exact ⟨_, rfl, .inl hl⟩
      | l σ rows => exact ⟨_, rfl, .inr rfl⟩
      | rf σ rows => exact ⟨_, rfl, .inr rfl⟩
      | r vs => obtain ⟨C, -, -, -, hl, -⟩ := this; exact ⟨_, rfl, .inl hl⟩
  cases x with
  | i k n => exact ⟨h.2, trivial⟩
  | s s => exact ⟨h.2, trivial⟩
  | ag σ xs => exact ⟨h.2.1, h.2.2.1, trivial⟩
  | p id off σ =>
    refine ⟨?_, trivial⟩
    obtain ⟨n, hn, h'⟩ := key id (off + σ.n)
    rw [hn]
    have := h.2.1
    rcases h' with rfl | rfl <;> omega
  | pw id σ =>
    refine ⟨?_, trivial⟩
    obtain ⟨n, hn, h'⟩ := key id σ.n
    rw [hn]
    have := h.2.2
    rcases h' with rfl | rfl
    · exact this
    · rfl
  | ow id len σ e =>
    obtain ⟨cap, -, h1, h2, hs, hp, h3, -⟩ := h
    refine ⟨?_, Nat.le_trans h1 h2, trivial⟩
    cases hm : M[id]? with
    | none => rfl
    | some b =>
      have := hM.blk id b hm
      cases b with
      | l σ' rows =>
        obtain ⟨C, -, -, hσ, -, -, hl, -⟩ := this
        have e : σ' = σ := by rw [← hσ, hs]
        subst e
        exact Nat.eq_of_mul_eq_mul_right hp (by rw [hl, h3])
      | s ss =>
        obtain ⟨C, -, -, hσ, hl, -⟩ := this
        have e : σ = .str := by rw [← hs, hσ]
        subst e
        rw [h3] at hl
        simpa [Sg.n] using hl
      | rf σ' ss =>
        obtain ⟨C, -, -, hσ, hl, -⟩ := this
        have e : σ = .ref := by rw [← hs, hσ]
        subst e
        rw [h3] at hl
        simpa [Sg.n] using hl
      | _ => rfl
  | fs σ rows => exact ⟨(FS_ok h).1, (FS_ok h).2, trivial⟩
  | fp o σ τ xs => obtain ⟨-, -, -, -, -, k, b, C, ty, fz, -, -, g⟩ := h; exact ⟨(rowAt_ok g).1, (rowAt_ok g).2, trivial⟩
  | fz σ rows => exact ⟨(FSS_ok h).1, (FSS_ok h).2, trivial⟩
  | fstr l => exact ⟨(FStr_ok h).1, (FStr_ok h).2, trivial⟩
  | sl id off len σ =>
    obtain ⟨cap, -, -, -, -, h4, -⟩ := h
    refine ⟨?_, trivial⟩
    obtain ⟨n, hn, h'⟩ := key id (off + len * σ.n)
    rw [hn]
    rcases h' with rfl | rfl <;> omega
  | _ => trivial

theorem factsL_ok {ρ : Rho} {M : List Blk} {w : World} (hM : MRel ρ M w) : ∀ {l : List AV} {vs : List Value}, Dens ρ l vs → allP (factsL M l)
  | [], [], _ => trivial
  | _ :: _, _ :: _, h => allP_app.2 ⟨factsA_ok hM h.1, factsL_ok hM h.2⟩
  | [], _ :: _, h => h.elim
  | _ :: _, [], h => h.elim

theorem factsB_ok {ρ : Rho} {M : List Blk} {w : World} (hM : MRel ρ M w) {id : Nat} {b : Blk} (h : M[id]? = some b) : allP (factsB b) := by
  have := hM.blk id b h
  cases b with
  | dead => trivial
  | c σ xs =>
    obtain ⟨C, -, -, hσ, -, -, -, -, hx⟩ := this
    refine ⟨fun j x hj => ?_, trivial⟩
    have := (hx j x hj).2
    unfold Loc.kind at this
    rw [hσ] at this
    exact this
  | s ss => obtain ⟨C, -, -, -, -, -, hx⟩ := this; exact ⟨fun j x hj => (hx j x hj).2, trivial⟩
  | l σ rows => obtain ⟨C, -, -, -, -, -, -, -, hx⟩ := this; exact ⟨rowsAt_ok hx, trivial⟩
  | rf σ rowss =>
    obtain ⟨C, -, -, -, -, -, hx⟩ := this
    refine ⟨fun rows hr => ?_, trivial⟩
    obtain ⟨i, hi, e⟩ := List.getElem_of_mem hr
    obtain ⟨y, -, hy⟩ := hx i rows (by rw [List.getElem?_eq_getElem hi, e])
    exact FS_ok hy
  | r vs => trivial

theorem factsM_ok {ρ : Rho} {M : List Blk} {w : World} (hM : MRel ρ M w) : ∀ (l : List Blk), (∀ b ∈ l, ∃ id : Nat, M[id]? = some b) → allP (factsM l)
  | [], _ => trivial
  | b :: l, h => allP_app.2 ⟨(h b List.mem_cons_self).elim fun _ hid => factsB_ok hM hid, factsM_ok hM l fun b hb => h b (List.mem_cons_of_mem _ hb)⟩

theorem SpecOK.assume {f : FuncId} {args : List AV} {M M' : List Blk} {r : AV} (h : allP (factsL M args) → allP (factsM M) → SpecOK P f args M r M') : SpecOK P f args M r M' :=
  fun ρ vals w hd hM hi => h (factsL_ok hM hd) (factsM_ok hM M fun b hb => by
    obtain ⟨n, hn, e⟩ := List.getElem_of_mem hb
    exact ⟨n, by rw [List.getElem?_eq_getElem hn, e]⟩) ρ vals w hd hM hi

end Go.Eng
