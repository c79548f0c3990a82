/- The engine, part 8: a call, by what is told of its callee. No conditions. -/
import Derived.Test.YtfelemoefhbphaaEng7
namespace Go.Eng
open Go Go.RowKit
variable {P : Program} {Γ : Tab}

/-- The same value under other ids. -/
def AV.mapI (f : Nat → Nat) : AV → AV
  | .p id off σ => .p (f id) off σ
  | .pw id σ => .pw (f id) σ
  | .sl id off len σ => .sl (f id) off len σ
  | .ow id len σ e => .ow (f id) len σ e
  | .lp id k o σ τ => .lp (f id) k o σ τ
  | .fn g caps => .fn g (caps.map fun c => (f c.1, c.2))
  | .mp id => .mp (f id)
  | .t2 x y => .t2 (x.mapI f) (y.mapI f)
  | .t3 x y z => .t3 (x.mapI f) (y.mapI f) (z.mapI f)
  | .t4 x y z u => .t4 (x.mapI f) (y.mapI f) (z.mapI f) (u.mapI f)
  | x => x
def Blk.mapI (f : Nat → Nat) : Blk → Blk
  | .r vs => .r (vs.map (AV.mapI f))
  | b => b

theorem den_mapI (ρ : Rho) (f : Nat → Nat) : ∀ (x : AV) (v : Value), Den ρ (x.mapI f) v ↔ Den (ρ.ren f) x v
  | .any, _ => Iff.rfl
  | .i _ _, _ => Iff.rfl
  | .b _, _ => Iff.rfl
  | .d _, _ => Iff.rfl
  | .s _, _ => Iff.rfl
  | .ag _ _, _ => Iff.rfl
  | .p _ _ _, _ => Iff.rfl
  | .pw _ _, _ => Iff.rfl
  | .np, _ => Iff.rfl
  | .sl _ _ _ _, _ => Iff.rfl
  | .ow _ _ _ _, _ => Iff.rfl
  | .lp _ _ _ _ _, _ => Iff.rfl
  | .fs _ _, _ => Iff.rfl
  | .fp _ _ _ _, _ => Iff.rfl
  | .fq _ _, _ => Iff.rfl
  | .fqs _, _ => Iff.rfl
  | .es, _ => Iff.rfl
  | .un, _ => Iff.rfl
  | .fz _ _, _ => Iff.rfl
  | .fstr _, _ => Iff.rfl
  | .nsl, _ => Iff.rfl
  | .fn g caps, v => by simp only [AV.mapI, Den, List.map_map, List.mem_map, forall_exists_index, and_imp, forall_apply_eq_imp_iff₂]; rfl
  | .mp _, _ => Iff.rfl
  | .t2 x y, v => by simp only [AV.mapI, Den, den_mapI ρ f x, den_mapI ρ f y]
  | .t3 x y z, v => by simp only [AV.mapI, Den, den_mapI ρ f x, den_mapI ρ f y, den_mapI ρ f z]
  | .t4 x y z u, v => by simp only [AV.mapI, Den, den_mapI ρ f x, den_mapI ρ f y, den_mapI ρ f z, den_mapI ρ f u]
  | .v _, _ => Iff.rfl

theorem ids_mapI (f : Nat → Nat) : ∀ (x : AV), (x.mapI f).ids = x.ids.map f
  | .any => rfl
  | .i _ _ => rfl
  | .b _ => rfl
  | .d _ => rfl
  | .s _ => rfl
  | .ag _ _ => rfl
  | .p _ _ _ => rfl
  | .pw _ _ => rfl
  | .np => rfl
  | .sl _ _ _ _ => rfl
  | .ow _ _ _ _ => rfl
  | .lp _ _ _ _ _ => rfl
  | .fs _ _ => rfl
  | .fp _ _ _ _ => rfl
  | .fq _ _ => rfl
  | .fqs _ => rfl
  | .es => rfl
  | .un => rfl
  | .fz _ _ => rfl
  | .fstr _ => rfl
  | .nsl => rfl
  | .fn g caps => by simp [AV.mapI, AV.ids]
  | .mp _ => rfl
  | .t2 x y => by simp [AV.mapI, AV.ids, ids_mapI f x, ids_mapI f y]
  | .t3 x y z => by simp [AV.mapI, AV.ids, ids_mapI f x, ids_mapI f y, ids_mapI f z]
  | .t4 x y z u => by simp [AV.mapI, AV.ids, ids_mapI f x, ids_mapI f y, ids_mapI f z, ids_mapI f u]
  | .v _ => rfl

theorem mapI_id {f : Nat → Nat} : ∀ (x : AV), (∀ i ∈ x.ids, f i = i) → x.mapI f = x
  | .any, _ => rfl
  | .i _ _, _ => rfl
  | .b _, _ => rfl
  | .d _, _ => rfl
  | .s _, _ => rfl
  | .ag _ _, _ => rfl
  | .p id _ _, h => by simp only [AV.mapI]; rw [h id (by simp [AV.ids])]
  | .pw id _, h => by simp only [AV.mapI]; rw [h id (by simp [AV.ids])]
  | .np, _ => rfl
  | .sl id _ _ _, h => by simp only [AV.mapI]; rw [h id (by simp [AV.ids])]
  | .ow id _ _ _, h => by simp only [AV.mapI]; rw [h id (by simp [AV.ids])]
  | .lp id _ _ _ _, h => by simp only [AV.mapI]; rw [h id (by simp [AV.ids])]
  | .fs _ _, _ => rfl
  | .fp _ _ _ _, _ => rfl
  | .fq _ _, _ => rfl
  | .fqs _, _ => rfl
  | .es, _ => rfl
  | .un, _ => rfl
  | .fz _ _, _ => rfl
  | .fstr _, _ => rfl
  | .nsl, _ => rfl
  | .fn g caps, h => by
    simp only [AV.mapI]
    congr 1
    conv => rhs; rw [← List.map_id caps]
    exact List.map_congr_left fun c hc => by rw [h c.1 (by simp only [AV.ids]; exact List.mem_map_of_mem hc)]; rfl
  | .mp id, h => by simp only [AV.mapI]; rw [h id (by simp [AV.ids])]
  | .t2 x y, h => by simp only [AV.mapI]; rw [mapI_id x (fun i hi => h i (by simp [AV.ids, hi])), mapI_id y (fun i hi => h i (by simp [AV.ids, hi]))]
  | .t3 x y z, h => by simp only [AV.mapI]; rw [mapI_id x (fun i hi => h i (by simp [AV.ids, hi])), mapI_id y (fun i hi => h i (by simp [AV.ids, hi])), mapI_id z (fun i hi => h i (by simp [AV.ids, hi]))]
  | .t4 x y z u, h => by simp only [AV.mapI]; rw [mapI_id x (fun i hi => h i (by simp [AV.ids, hi])), mapI_id y (fun i hi => h i (by simp [AV.ids, hi])), mapI_id z (fun i hi => h i (by simp [AV.ids, hi])), mapI_id u (fun i hi => h i (by simp [AV.ids, hi]))]
  | .v _, _ => rfl

theorem mapI_mapI (f g : Nat → Nat) : ∀ (x : AV), (x.mapI f).mapI g = x.mapI fun i => g (f i)
  | .any => rfl
  | .i _ _ => rfl
  | .b _ => rfl
  | .d _ => rfl
  | .s _ => rfl
  | .ag _ _ => rfl
  | .p _ _ _ => rfl
  | .pw _ _ => rfl
  | .np => rfl
  | .sl _ _ _ _ => rfl
  | .ow _ _ _ _ => rfl
  | .lp _ _ _ _ _ => rfl
  | .fs _ _ => rfl
  | .fp _ _ _ _ => rfl
  | .fq _ _ => rfl
  | .fqs _ => rfl
  | .es => rfl
  | .un => rfl
  | .fz _ _ => rfl
  | .fstr _ => rfl
  | .nsl => rfl
  | .fn g' caps => by simp [AV.mapI]
  | .mp _ => rfl
  | .t2 x y => by simp only [AV.mapI, mapI_mapI f g x, mapI_mapI f g y]
  | .t3 x y z => by simp only [AV.mapI, mapI_mapI f g x, mapI_mapI f g y, mapI_mapI f g z]
  | .t4 x y z u => by simp only [AV.mapI, mapI_mapI f g x, mapI_mapI f g y, mapI_mapI f g z, mapI_mapI f g u]
  | .v _ => rfl

theorem brel_mapI {ρ : Rho} {f : Nat → Nat} {l : Loc} {h : Option Obj} {b : Blk} : BRel ρ l h (b.mapI f) ↔ BRel (ρ.ren f) l h b := by
  cases b with
  | dead => exact Iff.rfl
  | c σ xs => exact Iff.rfl
  | s ss => exact Iff.rfl
  | l σ rows => exact Iff.rfl
  | rf σ rows => exact Iff.rfl
  | r vs =>
    simp only [Blk.mapI, BRel, List.length_map, List.getElem?_map, Option.map_eq_some_iff, forall_exists_index, and_imp, forall_apply_eq_imp_iff₂, den_mapI]

/-- The values of arguments. -/
def Dens (ρ : Rho) : List AV → List Value → Prop
  | [], [] => True
  | x :: l, v :: r => Den ρ x v ∧ Dens ρ l r
  | _, _ => False

theorem dens_mapI (ρ : Rho) (f : Nat → Nat) : ∀ (l : List AV) (r : List Value), Dens ρ (l.map (AV.mapI f)) r ↔ Dens (ρ.ren f) l r
  | [], [] => Iff.rfl
  | [], _ :: _ => Iff.rfl
  | _ :: _, [] => Iff.rfl
  | x :: l, v :: r => by simp only [List.map_cons, Dens, den_mapI, dens_mapI ρ f l r]

theorem dens_congr {ρ ρ' : Rho} (hF : ρ.le ρ') : ∀ {l : List AV} {r : List Value}, (∀ x ∈ l, ∀ i ∈ x.ids, ρ' i = ρ i) → Dens ρ l r → Dens ρ' l r
  | [], [], _, _ => trivial
  | [], _ :: _, _, h => h
  | _ :: _, [], _, h => h
  | x :: _, _ :: _, he, h => ⟨h.1.congr hF (he x List.mem_cons_self), dens_congr hF (fun y hy => he y (List.mem_cons_of_mem _ hy)) h.2⟩

/-- What is told of a function: called so, in any such memory, it returns so. -/
def SpecOK (P : Program) (f : FuncId) (args : List AV) (M : List Blk) (r : AV) (M' : List Blk) : Prop :=
  ∀ (ρ : Rho) (vals : List Value) (w : World), Dens ρ args vals → MRel ρ M w → (∀ x ∈ args, ∀ i ∈ x.ids, i < M.length) →
    Calls P f vals.toArray w fun e w' => ∃ v ρ', e = .returned v ∧ Den ρ' r v ∧ After ρ M M' w w' ρ' ∧ ∀ i ∈ r.ids, i < M'.length

abbrev Fun := List AV → List Blk → Option (AV × List Blk × List Prop)

def Sound (P : Program) (f : FuncId) (S : Fun) : Prop := ∀ args M r M' vs, S args M = some (r, M', vs) → allP vs → SpecOK P f args M r M'

/-- The blocks that are reached. -/
def clo (M : List Blk) : Nat → List Nat → List Nat → List Nat
  | n + 1, i :: t, acc => if acc.contains i then clo M n t acc else clo M n (t ++ (match M[i]? with | some (.r vs) => (vs.map AV.ids).flatten | _ => [])) (acc ++ [i])
  | _, _, acc => acc

def back (τ : List Nat) (m : Nat) (i : Nat) : Nat := if i < τ.length then τ.getD i 0 else m + (i - τ.length)

/-- Memory behind a call. -/
def putBack (τ : List Nat) (m : Nat) (M0' : List Blk) : List Blk → Nat → List Blk
  | [], _ => []
  | b :: M, id => (if τ.contains id then (M0'.getD (τ.idxOf id) .dead).mapI (back τ m) else b) :: putBack τ m M0' M (id + 1)

theorem putBack_len (τ : List Nat) (m : Nat) (M0' : List Blk) : ∀ (M : List Blk) (k : Nat), (putBack τ m M0' M k).length = M.length
  | [], _ => rfl
  | b :: M, k => by simp only [putBack, List.length_cons, putBack_len τ m M0' M (k + 1)]

theorem putBack_get (τ : List Nat) (m : Nat) (M0' : List Blk) : ∀ (M : List Blk) (k id : Nat), (putBack τ m M0' M k)[id]? = (M[id]?).map fun b => if τ.contains (k + id) then (M0'.getD (τ.idxOf (k + id)) .dead).mapI (back τ m) else b
  | [], k, id => by simp [putBack]
  | b :: M, k, 0 => by simp [putBack]
  | b :: M, k, id + 1 => by
    simp only [putBack, List.getElem?_cons_succ, putBack_get τ m M0' M (k + 1) id]
    rw [show k + 1 + id = k + (id + 1) from by omega]

def nodupB : List Nat → Bool
  | [] => true
  | i :: l => !(l.contains i) && nodupB l

def cloOk (τ : List Nat) (M : List Blk) (args : List AV) : Bool :=
  nodupB τ && ((args.map AV.ids).flatten.all fun i => τ.contains i) && τ.all fun i => decide (i < M.length) && (match M[i]? with
    | some (.r vs) => (vs.map AV.ids).flatten.all fun i => τ.contains i
    | _ => true)

/-- A call: what comes back, and memory behind it. -/
def callAV (S : Fun) (M : List Blk) (args : List AV) : Option (AV × List Blk × List Prop) :=
  fNs (clo M 200 ((args.map AV.ids).flatten) []) fun τ => if cloOk τ M args = true then (match S (args.map (AV.mapI fun i => τ.idxOf i)) (τ.map fun id => (M.getD id .dead).mapI fun i => τ.idxOf i) with
    | some (r, M0', vs) => some (r.mapI (back τ M.length), putBack τ M.length M0' M 0 ++ (M0'.drop τ.length).map (Blk.mapI (back τ M.length)), vs)
    | .none => .none) else .none

theorem nodupB_inj : ∀ (τ : List Nat), nodupB τ = true → ∀ i j, i < τ.length → j < τ.length → τ.getD i 0 = τ.getD j 0 → i = j
  | [], _, i, j, hi, _, _ => by simp at hi
  | x :: l, h, i, j, hi, hj, e => by
    simp only [nodupB, Bool.and_eq_true, Bool.not_eq_true'] at h
    have hm : ∀ k, k < l.length → l.getD k 0 ≠ x := by
      intro k hk e'
      have : x ∈ l := by rw [← e', List.getD_eq_getElem?_getD, List.getElem?_eq_getElem hk]; exact List.getElem_mem hk
      have h1 := h.1
      rw [List.contains_iff_mem.2 this] at h1
      cases h1
    cases i with
    | zero =>
      cases j with
      | zero => rfl
      | succ j => exact absurd (by simpa using e.symm) (hm j (by simpa using hj))
    | succ i =>
      cases j with
      | zero => exact absurd (by simpa using e) (hm i (by simpa using hi))
      | succ j => rw [nodupB_inj l h.2 i j (by simpa using hi) (by simpa using hj) (by simpa using e)]

theorem idx_get {τ : List Nat} {i : Nat} (h : i ∈ τ) : τ.getD (τ.idxOf i) 0 = i ∧ τ.idxOf i < τ.length := by
  have hl := List.idxOf_lt_length_iff.2 h
  exact ⟨by rw [List.getD_eq_getElem?_getD, List.getElem?_eq_getElem hl]; simp, hl⟩

theorem blk_mapI_id {f : Nat → Nat} {b : Blk} (h : ∀ vs, b = .r vs → ∀ x ∈ vs, ∀ i ∈ x.ids, f i = i) : b.mapI f = b := by
  cases b with
  | r vs =>
    simp only [Blk.mapI]
    congr 1
    conv => rhs; rw [← List.map_id vs]
    exact List.map_congr_left fun x hx => by rw [mapI_id x (h vs rfl x hx)]; rfl
  | _ => rfl

theorem live_mapI (f : Nat → Nat) (b : Blk) : (b.mapI f).live = b.live := by cases b <;> rfl

/-- What a quiet or a writing call does, over the caller's own memory. -/
theorem call_spec {f : FuncId} {S : Fun} {M M' : List Blk} {args : List AV} {r : AV} {vs : List Prop} (hS : Sound P f S) (h : callAV S M args = some (r, M', vs)) (hvs : allP vs) : SpecOK P f args M r M' := by
  unfold callAV at h
  rw [fNs_eq] at h
  generalize clo M 200 ((args.map AV.ids).flatten) [] = τ at h
  split at h
  case isFalse => cases h
  rename_i hok
  split at h
  case h_2 => cases h
  rename_i r0 M0' vs0 hs
  simp only [Option.some.injEq, Prod.mk.injEq] at h
  obtain ⟨rfl, rfl, rfl⟩ := h
  intro ρ vals w hd hM hids
  unfold cloOk at hok
  simp only [Bool.and_eq_true, List.all_eq_true, List.contains_iff_mem, List.mem_flatten, List.mem_map, decide_eq_true_eq, forall_exists_index, and_imp, forall_apply_eq_imp_iff₂] at hok
  obtain ⟨⟨hnd, hargs⟩, hcl⟩ := hok
  have hinj := nodupB_inj τ hnd
  generalize hg : (fun i => τ.idxOf i) = g at hs
  have hgi : ∀ i, i ∈ τ → τ.getD (g i) 0 = i ∧ g i < τ.length := fun i hi => by rw [← hg]; exact idx_get hi
  -- the callee's places
  have hbk : ∀ i, i ∈ τ → back τ M.length (g i) = i := fun i hi => by unfold back; rw [if_pos (hgi i hi).2]; exact (hgi i hi).1
  have hρ : ∀ i, i < τ.length → (ρ.ren (back τ M.length)) i = ρ (τ.getD i 0) := fun i hi => by simp only [Rho.ren, back]; rw [if_pos hi]
  have hmem : ∀ k, k < τ.length → τ.getD k 0 ∈ τ := fun k hk => by rw [List.getD_eq_getElem?_getD, List.getElem?_eq_getElem hk]; exact List.getElem_mem hk
  have hrefs : ∀ i ∈ τ, ∀ vs, M[i]? = some (.r vs) → ∀ x ∈ vs, ∀ j ∈ x.ids, j ∈ τ := by
    intro i hi vs hv x hx j hj
    have := (hcl i hi).2
    rw [hv] at this
    simp only [List.all_eq_true, List.contains_iff_mem, List.mem_flatten, List.mem_map, forall_exists_index, and_imp, forall_apply_eq_imp_iff₂] at this
    exact this j x hx hj
  have hM0 : ∀ k b, (τ.map fun id => (M.getD id .dead).mapI g)[k]? = some b → ∃ c, M[τ.getD k 0]? = some c ∧ b = c.mapI g ∧ k < τ.length := by
    intro k b hb
    rw [List.getElem?_map] at hb
    cases hk : τ[k]? with
    | none => rw [hk] at hb; cases hb
    | some id =>
      rw [hk] at hb
      simp only [Option.map_some, Option.some.injEq] at hb
      have hkl := (List.getElem?_eq_some_iff.1 hk).1
      have e : τ.getD k 0 = id := by rw [List.getD_eq_getElem?_getD, hk]; rfl
      rw [e]
      have hid : id < M.length := (hcl id (e ▸ hmem k hkl)).1
      refine ⟨M[id], List.getElem?_eq_getElem hid, ?_, hkl⟩
      rw [← hb, List.getD_eq_getElem?_getD, List.getElem?_eq_getElem hid]; rfl
  have hMR : MRel (ρ.ren (back τ M.length)) (τ.map fun id => (M.getD id .dead).mapI g) w := by
    refine ⟨?_, ?_, ?_, ?_⟩
    · intro k b hb
      obtain ⟨c, hc, rfl, hk⟩ := hM0 k b hb
      rw [← brel_mapI (f := back τ M.length)]
      have e2 : (c.mapI g).mapI (back τ M.length) = c := by
        cases c with
        | r vs =>
          simp only [Blk.mapI, List.map_map]
          congr 1
          conv => rhs; rw [← List.map_id vs]
          refine List.map_congr_left fun x hx => ?_
          simp only [Function.comp, mapI_mapI]
          exact mapI_id x (fun i hi => hbk i (hrefs _ (hmem k hk) vs hc x hx i hi))
        | _ => rfl
      have e3 : back τ M.length k = τ.getD k 0 := by unfold back; rw [if_pos hk]
      rw [e2]
      show BRel ρ (ρ (back τ M.length k)) w.heap[(ρ (back τ M.length k)).blk]? c
      rw [e3]
      exact hM.blk _ c hc
    · intro i j hi hj he
      obtain ⟨bi, hbi, hli⟩ := hi
      obtain ⟨bj, hbj, hlj⟩ := hj
      obtain ⟨ci, hci, rfl, hi'⟩ := hM0 i bi hbi
      obtain ⟨cj, hcj, rfl, hj'⟩ := hM0 j bj hbj
      simp only [Rho.ren, back, if_pos hi', if_pos hj'] at he
      exact hinj i j hi' hj' (hM.inj _ _ ⟨ci, hci, by rw [← live_mapI g]; exact hli⟩ ⟨cj, hcj, by rw [← live_mapI g]; exact hlj⟩ he)
    · intro k vs hb x hx i hi
      obtain ⟨c, hc, he, hk⟩ := hM0 k _ hb
      cases c <;> simp only [Blk.mapI, Blk.r.injEq, reduceCtorEq] at he
      subst he
      rw [List.mem_map] at hx
      obtain ⟨y, hy, rfl⟩ := hx
      rw [ids_mapI, List.mem_map] at hi
      obtain ⟨j, hj, rfl⟩ := hi
      rw [List.length_map]
      exact (hgi j (hrefs _ (hmem k hk) _ hc y hy j hj)).2
    · intro k o hk
      obtain ⟨g1, g2⟩ := hM.env k o hk
      refine ⟨g1, fun i hi => ?_⟩
      obtain ⟨bi, hbi, hli⟩ := hi
      obtain ⟨ci, hci, rfl, hi'⟩ := hM0 i bi hbi
      simp only [Rho.ren, back, if_pos hi']
      exact g2 _ ⟨ci, hci, by rw [← live_mapI g]; exact hli⟩
  have hD0 : Dens (ρ.ren (back τ M.length)) (args.map (AV.mapI g)) vals := by
    rw [← dens_mapI ρ (back τ M.length), List.map_map]
    have : (args.map (AV.mapI (back τ M.length) ∘ AV.mapI g)) = args := by
      conv => rhs; rw [← List.map_id args]
      refine List.map_congr_left fun x hx => ?_
      simp only [Function.comp, mapI_mapI]
      exact mapI_id x (fun i hi => hbk i (hargs i x hx hi))
    rw [this]
    exact hd
  have hi0 : ∀ x ∈ args.map (AV.mapI g), ∀ i ∈ x.ids, i < (τ.map fun id => (M.getD id .dead).mapI g).length := by
    intro x hx i hi
    rw [List.mem_map] at hx
    obtain ⟨y, hy, rfl⟩ := hx
    rw [ids_mapI, List.mem_map] at hi
    obtain ⟨j, hj, rfl⟩ := hi
    rw [List.length_map]
    exact (hgi j (hargs j y hy hj)).2
  refine (hS _ _ _ _ _ hs hvs _ vals w hD0 hMR hi0).mono ?_
  rintro e w' ⟨v, ρ0, rfl, hv, hA, hri⟩
  have hlen0 : (τ.map fun id => (M.getD id .dead).mapI g).length = τ.length := List.length_map ..
  have hle : τ.length ≤ M0'.length := by have := hA.len; rw [hlen0] at this; exact this
  -- the caller's places
  let ρ' : Rho := ⟨fun id => if id < M.length then ρ id else ρ0 (τ.length + (id - M.length)), ρ0.F⟩
  have hle' : ρ.le ρ' := fun k o h => hA.fmono k o h
  have hle0 : ρ0.le ρ' := fun k o h => h
  have hρb : ∀ i, i < M0'.length → ρ' (back τ M.length i) = ρ0 i := by
    intro i hi
    by_cases hit : i < τ.length
    · have h1 : back τ M.length i = τ.getD i 0 := by unfold back; rw [if_pos hit]
      have h2 : τ.getD i 0 < M.length := (hcl _ (hmem i hit)).1
      rw [h1]
      show (if τ.getD i 0 < M.length then ρ (τ.getD i 0) else _) = _
      rw [if_pos h2]
      have := hA.ext i (by rw [hlen0]; exact hit)
      rw [this]
      show _ = ρ (back τ M.length i)
      rw [h1]
    · have h1 : back τ M.length i = M.length + (i - τ.length) := by unfold back; rw [if_neg hit]
      rw [h1]
      show (if M.length + (i - τ.length) < M.length then _ else ρ0 (τ.length + (M.length + (i - τ.length) - M.length))) = _
      rw [if_neg (by omega), show τ.length + (M.length + (i - τ.length) - M.length) = i from by omega]
  have hplen : (putBack τ M.length M0' M 0).length = M.length := putBack_len ..
  have hbacklt : ∀ i, i < M0'.length → back τ M.length i < M.length + (M0'.length - τ.length) := by
    intro i hi
    by_cases hit : i < τ.length
    · have h1 : back τ M.length i = τ.getD i 0 := by unfold back; rw [if_pos hit]
      have h2 : τ.getD i 0 < M.length := (hcl _ (hmem i hit)).1
      omega
    · have h1 : back τ M.length i = M.length + (i - τ.length) := by unfold back; rw [if_neg hit]
      omega
  -- what stands at an id
  have hget : ∀ id b, (putBack τ M.length M0' M 0 ++ (M0'.drop τ.length).map (Blk.mapI (back τ M.length)))[id]? = some b →
      (id < M.length ∧ id ∉ τ ∧ M[id]? = some b) ∨ (∃ k c, k < M0'.length ∧ id = back τ M.length k ∧ M0'[k]? = some c ∧ b = c.mapI (back τ M.length)) := by
    intro id b hb
    by_cases hid : id < M.length
    · rw [List.getElem?_append_left (by omega), putBack_get, Nat.zero_add] at hb
      rw [List.getElem?_eq_getElem hid] at hb
      simp only [Option.map_some, Option.some.injEq] at hb
      split at hb
      · rename_i hc
        have hc' := List.contains_iff_mem.1 hc
        obtain ⟨h1, h2⟩ := idx_get hc'
        have hkl : τ.idxOf id < M0'.length := by omega
        refine .inr ⟨τ.idxOf id, M0'[τ.idxOf id], hkl, ?_, List.getElem?_eq_getElem hkl, ?_⟩
        · unfold back; rw [if_pos h2, h1]
        · rw [← hb, List.getD_eq_getElem?_getD, List.getElem?_eq_getElem hkl]; rfl
      · rename_i hc
        exact .inl ⟨hid, fun hm => hc (List.contains_iff_mem.2 hm), by rw [← hb]; exact List.getElem?_eq_getElem hid⟩
    · rw [List.getElem?_append_right (by omega), hplen, List.getElem?_map, List.getElem?_drop] at hb
      cases hc : M0'[τ.length + (id - M.length)]? with
      | none => rw [hc] at hb; cases hb
      | some c =>
        rw [hc] at hb
        simp only [Option.map_some, Option.some.injEq] at hb
        have hkl := (List.getElem?_eq_some_iff.1 hc).1
        exact .inr ⟨_, c, hkl, by unfold back; rw [if_neg (by omega)]; omega, hc, hb.symm⟩
  have hlive : ∀ id, liveAt (putBack τ M.length M0' M 0 ++ (M0'.drop τ.length).map (Blk.mapI (back τ M.length))) id →
      (id < M.length ∧ id ∉ τ ∧ liveAt M id) ∨ (∃ k, liveAt M0' k ∧ id = back τ M.length k) := by
    rintro id ⟨b, hb, hl⟩
    rcases hget id b hb with ⟨h1, h2, h3⟩ | ⟨k, c, hk, he, hc, rfl⟩
    · exact .inl ⟨h1, h2, b, h3, hl⟩
    · exact .inr ⟨k, ⟨c, hc, by rw [← live_mapI (back τ M.length)]; exact hl⟩, he⟩
  -- a block of ours that the callee doesn't reach
  have hother : ∀ id, id < M.length → id ∉ τ → liveAt M id → ∀ k, liveAt (τ.map fun id => (M.getD id .dead).mapI g) k → (ρ (back τ M.length k)).blk ≠ (ρ id).blk := by
    intro id hid hnt hl k hk he
    obtain ⟨bk, hbk', hlk⟩ := hk
    obtain ⟨c, hc, rfl, hkl⟩ := hM0 k bk hbk'
    have e3 : back τ M.length k = τ.getD k 0 := by unfold back; rw [if_pos hkl]
    rw [e3] at he
    have := hM.inj _ _ ⟨c, hc, by rw [← live_mapI g]; exact hlk⟩ hl he
    exact hnt (this ▸ hmem k hkl)
  have hnew : ∀ k, liveAt M0' k → (ρ0 k).blk ≥ w.heap.size ∨ ∃ i, i ∈ τ ∧ liveAt M i ∧ (ρ0 k).blk = (ρ i).blk := by
    intro k hk
    have key : ∀ i, i < τ.length → liveAt (τ.map fun id => (M.getD id .dead).mapI g) i → ∃ j, j ∈ τ ∧ liveAt M j ∧ (ρ (back τ M.length i)).blk = (ρ j).blk := by
      intro i hi hl
      obtain ⟨bi, hbi, hli⟩ := hl
      obtain ⟨c, hc, rfl, -⟩ := hM0 i bi hbi
      have e3 : back τ M.length i = τ.getD i 0 := by unfold back; rw [if_pos hi]
      exact ⟨τ.getD i 0, hmem i hi, ⟨c, hc, by rw [← live_mapI g]; exact hli⟩, by rw [e3]⟩
    by_cases hkt : k < τ.length
    · have h1 := hA.ext k (by rw [hlen0]; exact hkt)
      rw [h1]
      show _ ∨ ∃ i, i ∈ τ ∧ liveAt M i ∧ (ρ (back τ M.length k)).blk = (ρ i).blk
      exact .inr (key k hkt (hA.dead k (by rw [hlen0]; exact hkt) hk))
    · rcases hA.fresh k (by rw [hlen0]; omega) hk with h1 | ⟨i, hi, hl, he⟩
      · exact .inl h1
      · rw [hlen0] at hi
        rw [he]
        show _ ∨ ∃ j, j ∈ τ ∧ liveAt M j ∧ (ρ (back τ M.length i)).blk = (ρ j).blk
        exact .inr (key i hi hl)
  refine ⟨v, ρ', rfl, ?_, ⟨?_, ⟨?_, ?_, ?_, ?_⟩, ?_, ?_, ?_, ?_, hA.os, hA.tape, hA.output, hA.size, hle', ?_⟩, ?_⟩
  · rw [den_mapI]
    exact hv.congr (ρ' := ρ'.ren (back τ M.length)) hle0 (fun i hi => hρb i (hri i hi))
  · intro id hid
    show (if id < M.length then ρ id else _) = _
    rw [if_pos hid]
  · intro id b hb
    rcases hget id b hb with ⟨h1, h2, h3⟩ | ⟨k, c, hk, rfl, hc, rfl⟩
    · have e1 : ρ' id = ρ id := by show (if id < M.length then ρ id else _) = _; rw [if_pos h1]
      rw [e1]
      by_cases hl : b.live = true
      · rw [hA.frame _ (hM.blk_lt ⟨b, h3, hl⟩) (fun k hk => hother id h1 h2 ⟨b, h3, hl⟩ k hk)]
        refine (hM.blk id b h3).congr hle' ?_
        rintro vs rfl x hx i hi
        show (if i < M.length then ρ i else _) = _
        rw [if_pos (hM.cl id vs h3 x hx i hi)]
      · cases b <;> first | trivial | (exact absurd rfl hl)
    · rw [hρb k hk, brel_mapI]
      refine (hA.rel.blk k c hc).congr (ρ' := ρ'.ren (back τ M.length)) hle0 ?_
      rintro vs rfl x hx i hi
      exact hρb i (hA.rel.cl k vs hc x hx i hi)
  · intro i j hi hj he
    rcases hlive i hi with ⟨i1, i2, i3⟩ | ⟨ki, hki, rfl⟩
    · have ei : ρ' i = ρ i := by show (if i < M.length then ρ i else _) = _; rw [if_pos i1]
      rcases hlive j hj with ⟨j1, j2, j3⟩ | ⟨kj, hkj, rfl⟩
      · have ej : ρ' j = ρ j := by show (if j < M.length then ρ j else _) = _; rw [if_pos j1]
        rw [ei, ej] at he
        exact hM.inj i j i3 j3 he
      · rw [ei, hρb kj hkj.lt] at he
        have hlt := hM.blk_lt i3
        rcases hnew kj hkj with h1 | ⟨m, hm, hml, hme⟩
        · omega
        · exact absurd (hM.inj i m i3 hml (by rw [he, hme])) (fun e => i2 (e ▸ hm))
    · rcases hlive j hj with ⟨j1, j2, j3⟩ | ⟨kj, hkj, rfl⟩
      · have ej : ρ' j = ρ j := by show (if j < M.length then ρ j else _) = _; rw [if_pos j1]
        rw [hρb ki hki.lt, ej] at he
        have hlt := hM.blk_lt j3
        rcases hnew ki hki with h1 | ⟨m, hm, hml, hme⟩
        · omega
        · exact absurd (hM.inj m j hml j3 (by rw [← he, hme])) (fun e => j2 (e ▸ hm))
      · rw [hρb ki hki.lt, hρb kj hkj.lt] at he
        rw [hA.rel.inj ki kj hki hkj he]
  · intro id vs hb x hx i hi
    simp only [List.length_append, hplen, List.length_map, List.length_drop]
    rcases hget id _ hb with ⟨h1, h2, h3⟩ | ⟨k, c, hk, rfl, hc, he⟩
    · have := hM.cl id vs h3 x hx i hi; omega
    · cases c <;> simp only [Blk.mapI, Blk.r.injEq, reduceCtorEq] at he
      subst he
      rw [List.mem_map] at hx
      obtain ⟨y, hy, rfl⟩ := hx
      rw [ids_mapI, List.mem_map] at hi
      obtain ⟨j, hj, rfl⟩ := hi
      exact hbacklt j (hA.rel.cl k _ hc y hy j hj)
  · intro k o hk
    obtain ⟨g1, g2⟩ := hA.rel.env k o hk
    refine ⟨g1, fun i hi he => ?_⟩
    rcases hlive i hi with ⟨i1, i2, i3⟩ | ⟨ki, hki, rfl⟩
    · have ei : ρ' i = ρ i := by show (if i < M.length then ρ i else _) = _; rw [if_pos i1]
      rw [ei] at he
      have hlt := hM.blk_lt i3
      rcases hA.fnew k o hk with h1 | h1 | ⟨j, hj, hje⟩
      · exact (hM.env k o h1).2 i i3 he
      · omega
      · exact hother i i1 i2 i3 j hj (by rw [he]; exact hje)
    · rw [hρb ki hki.lt] at he
      exact g2 ki hki he
  · simp only [List.length_append, hplen]; omega
  · intro id hid hl
    rcases hlive id hl with ⟨-, -, h⟩ | ⟨k, hk, rfl⟩
    · exact h
    · have hkt : k < τ.length := by
        rcases Nat.lt_or_ge k τ.length with h | h
        · exact h
        · unfold back at hid; rw [if_neg (by omega)] at hid; omega
      have hd0 := hA.dead k (by rw [hlen0]; exact hkt) hk
      obtain ⟨bk, hbk', hlk⟩ := hd0
      obtain ⟨c, hc, rfl, -⟩ := hM0 k bk hbk'
      have e3 : back τ M.length k = τ.getD k 0 := by unfold back; rw [if_pos hkt]
      rw [e3]
      exact ⟨c, hc, by rw [← live_mapI g]; exact hlk⟩
  · intro id hid hl
    rcases hlive id hl with ⟨h1, -, -⟩ | ⟨k, hk, rfl⟩
    · omega
    · rw [hρb k hk.lt]
      rcases hnew k hk with h1 | ⟨m, hm, hml, hme⟩
      · exact .inl h1
      · exact .inr ⟨m, hml.lt, hml, hme⟩
  · intro b hb hn
    refine hA.frame b hb (fun k hk he => ?_)
    obtain ⟨bk, hbk', hlk⟩ := hk
    obtain ⟨c, hc, rfl, hkl⟩ := hM0 k bk hbk'
    have e3 : back τ M.length k = τ.getD k 0 := by unfold back; rw [if_pos hkl]
    change (ρ (back τ M.length k)).blk = b at he
    rw [e3] at he
    exact hn _ ⟨c, hc, by rw [← live_mapI g]; exact hlk⟩ he
  · intro k o hk
    rcases hA.fnew k o hk with h1 | h1 | ⟨j, hj, hje⟩
    · exact .inl h1
    · exact .inr (.inl h1)
    · obtain ⟨bk, hbk', hlk⟩ := hj
      obtain ⟨c, hc, rfl, hkl⟩ := hM0 j bk hbk'
      have e3 : back τ M.length j = τ.getD j 0 := by unfold back; rw [if_pos hkl]
      refine .inr (.inr ⟨τ.getD j 0, ⟨c, hc, by rw [← live_mapI g]; exact hlk⟩, ?_⟩)
      rw [← e3]; exact hje
  · intro i hi
    rw [ids_mapI, List.mem_map] at hi
    obtain ⟨j, hj, rfl⟩ := hi
    simp only [List.length_append, hplen, List.length_map, List.length_drop]
    exact hbacklt j (hri j hj)

end Go.Eng
