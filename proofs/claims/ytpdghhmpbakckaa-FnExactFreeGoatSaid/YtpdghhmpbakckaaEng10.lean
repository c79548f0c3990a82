/- The engine, part 10: every operation of a region in the text's order. No conditions. -/
import Derived.Test.YtpdghhmpbakckaaEng9
namespace Go.Eng
open Go Go.RowKit
variable {P : Program} {Γ : Tab}

def evCallee (E : Operand → AV) (c : Call) : Option (FuncId × List AV) :=
  match c.callee with
  | .value f => match E f with
    | .fn n caps => some (n, (c.args.toList).map E ++ caps.map fun p => .pw p.1 p.2)
    | _ => .none
  | _ => .none

/-- A new row of elements. -/
def newSl (Γ : Tab) (M : List Blk) (E : Operand → AV) (t : TypeId) (len : Nat) (ps : Array (Nat × Operand)) : Option (AV × Blk) :=
  match Γ.sl t with
  | some e => fSg (Γ.sg e) fun σ => if σ.pure = true ∧ σ ≠ .none ∧ len * σ.n ≤ 16777216 then
      (match fillAV (slotAt σ len) (List.replicate (len * σ.n) 0) (ps.toList.map fun p => (p.1, E p.2)) with
      | some xs => some (.ow M.length len σ e, .c σ xs)
      | .none => .none) else .none
  | .none => .none

/-- One operation: what it yields, memory behind it, what is owed. -/
def evO (Γ : Tab) (wr : Bool) (tb : FuncId → Option Fun) (M : List Blk) (E : Operand → AV) (op : Op) : Option (AV × List Blk × List Prop) :=
  match op with
  | .box t x => fSg (Γ.sg t) fun σ => if σ = .none then .none else (match boxBlk σ (E x) with
    | some b => some (.pw M.length σ, M ++ [b], [])
    | .none => .none)
  | .alloc t => fSg (Γ.sg t) fun σ => if σ = .none then .none else some (.pw M.length σ, M ++ [zeroBlk σ], [])
  | .store t x y => match E x with
    | .p id off σ => if Γ.sg t = σ ∧ σ ≠ .none then (match storeAV M id off σ (E y) with
      | some M' => some (.any, M', [])
      | .none => .none) else .none
    | .pw id σ => if Γ.sg t = σ ∧ σ ≠ .none then (match storeW M id σ (E y) with
      | some M' => some (.any, M', [])
      | .none => .none) else .none
    | _ => .none
  | .call c => match evCallee E c with
    | some (n, args) => match tb n with
      | some S => match callAV S M args with
        | some (r, M', vs) => some (r, M', vs)
        | .none => .none
      | .none => .none
    | .none => match evS Γ wr M E (.call c) with
      | some (r, v) => some (r, M, v)
      | .none => .none
  | .buildSlice t len ps => match newSl Γ M E t len ps with
    | some (r, b) => some (r, M ++ [b], [])
    | .none => .none
  | op => match evS Γ wr M E op with
    | some (r, v) => some (r, M, v)
    | .none => .none

structure TbOk (P : Program) (tb : FuncId → Option Fun) : Prop where
  sound : ∀ n S, tb n = some S → Sound P n S
  enter : ∀ n S, tb n = some S → ∀ args w, (callFunc n args).run P w = .ok (.enter n args) w

theorem enter_ok {n : FuncId} {fn : Func} (h : P.funcs[n]? = some fn) (hb : fn.body.isNone = false) (hn : (fn.name == "runtime.NumGoroutine") = false) (args : Array Value) (w : World) : (callFunc n args).run P w = .ok (.enter n args) w := by
  simp only [callFunc, Sem.run_bind, run_program, Result.andThen_ok, h, hn, hb, Bool.false_eq_true, if_false, Sem.run_pure]

theorem dens_map {ρ : Nat → Loc} {E : Operand → AV} {a : Act} (hE : ∀ x, Den ρ (E x) (a.eval x)) : ∀ (l : List Operand), Dens ρ (l.map E) (l.map a.eval)
  | [] => trivial
  | x :: l => ⟨hE x, dens_map hE l⟩

theorem dens_app {ρ : Nat → Loc} : ∀ {l : List AV} {r : List Value} {l' : List AV} {r' : List Value}, Dens ρ l r → Dens ρ l' r' → Dens ρ (l ++ l') (r ++ r')
  | [], [], _, _, _, h => h
  | [], _ :: _, _, _, h, _ => h.elim
  | _ :: _, [], _, _, h, _ => h.elim
  | _ :: _, _ :: _, _, _, h, h' => ⟨h.1, dens_app h.2 h'⟩

theorem dens_caps {ρ : Nat → Loc} : ∀ (caps : List (Nat × Sg)), (∀ c ∈ caps, PtrOk (ρ c.1) 0 c.2 ∧ (ρ c.1).size = c.2.n) →
    Dens ρ (caps.map fun p => .pw p.1 p.2) (caps.map fun c => Value.pointer (some ⟨(ρ c.1).blk, 0, .none⟩))
  | [], _ => trivial
  | c :: l, h => ⟨⟨rfl, h c List.mem_cons_self⟩, dens_caps l fun c hc => h c (List.mem_cons_of_mem _ hc)⟩

theorem newSl_sound (H : TabOk P Γ) {ρ : Nat → Loc} {M : List Blk} {E : Operand → AV} {ev : Operand → Value} {w : World} {t : TypeId} {len : Nat} {ps : Array (Nat × Operand)} {r : AV} {b : Blk}
    (hE : ∀ x, Den ρ (E x) (ev x)) (hM : MRel ρ M w) (h : newSl Γ M E t len ps = some (r, b)) :
    ∃ v w' ρ', (Instr.buildSlice t len (ps.map fun p => (p.1, ev p.2))).run P w = .ok v w' ∧ After ρ M (M ++ [b]) w w' ρ' ∧ Den ρ' r v ∧ ∀ i ∈ r.ids, i < (M ++ [b]).length := by
  unfold newSl at h
  split at h
  · rename_i e hs
    rw [fSg_eq] at h
    split at h
    · rename_i hc
      obtain ⟨hp, hn, hb⟩ := hc
      split at h
      · rename_i xs hf
        cases h
        obtain ⟨h1, h2, h3⟩ := run_buildSlice (w := w) (ρ := ρ) (parts := ps.map fun p => (p.1, ev p.2)) H hs hp hn hb (by simp) (fun j i r hj => by
            rw [List.getElem?_map] at hj
            rw [Array.toList_map, List.getElem?_map]
            cases hq : ps.toList[j]? with
            | none => rw [hq] at hj; cases hj
            | some q =>
              rw [hq] at hj
              simp only [Option.map_some, Option.some.injEq, Prod.mk.injEq] at hj
              obtain ⟨rfl, rfl⟩ := hj
              exact ⟨_, rfl, hE _⟩) hf
        have hpos := sg_pos hn
        have hfl := Sg.flat_len _ hp
        have hrl := rep_len (Γ.sg e).flat len
        rw [hfl] at hrl
        let l : Loc := { blk := w.heap.size, size := len * (Γ.sg e).n, room := len * (Γ.sg e).n, σ := Γ.sg e, ty := e }
        have q1 : BRel ρ l (some (.cells (cellsV (rep len (Γ.sg e).flat) xs).toArray e (0, 0))) (.c (Γ.sg e) xs) := by
          refine ⟨_, rfl, ?_, rfl, hp, hpos, h2, Nat.le_refl _, fun j x hx => ?_⟩
          · simp [cellsV_len _ _ (by omega : (rep len (Γ.sg e).flat).length = xs.length), h2, l]
          · have hj : j < len * (Γ.sg e).n := by have := (List.getElem?_eq_some_iff.1 hx).1; omega
            have hdiv : j / (Γ.sg e).n < len := by rw [Nat.div_lt_iff_lt_mul hpos]; exact hj
            have hmod := Nat.mod_lt j hpos
            have hsum : j / (Γ.sg e).n * (Γ.sg e).n + j % (Γ.sg e).n = j := by rw [Nat.mul_comm]; exact Nat.div_add_mod j (Γ.sg e).n
            have hr := rep_get (Γ.sg e).flat len (j / (Γ.sg e).n) (j % (Γ.sg e).n) hdiv (by omega)
            rw [hfl, hsum] at hr
            have hk : (Γ.sg e).flat[j % (Γ.sg e).n]? = some (l.kind j) := by
              unfold Loc.kind
              show _ = some ((Γ.sg e).flat.getD (j % (Γ.sg e).n) .bool)
              rw [List.getD_eq_getElem?_getD, List.getElem?_eq_getElem (by omega)]; rfl
            rw [hk] at hr
            exact ⟨by rw [List.getElem?_toArray]; exact cellsV_get _ _ j x _ hx hr, cellsOk_get _ _ j x _ h3 hx hr⟩
        refine ⟨_, _, up ρ M.length l, h1, After.alloc hM rfl q1 (fun vs e => by cases e), ?_, fun i hi => by simp [AV.ids] at hi; simp [hi]⟩
        simp only [Den]
        rw [up_new]
        exact ⟨len, rfl, Nat.le_refl _, (by have : len * 1 ≤ len * (Γ.sg e).n := Nat.mul_le_mul_left _ hpos; simp only [maxLen]; omega), rfl, hpos, rfl, rfl, rfl⟩
      · cases h
    · cases h
  · cases h

theorem evO_sound (H : TabOk P Γ) {tb : FuncId → Option Fun} (htb : TbOk P tb) {ρ : Nat → Loc} {wr : Bool} {M M' : List Blk} {E : Operand → AV} {a : Act} {w : World} {o : Oper} {r : AV} {vs : List Prop}
    (hE : ∀ x, Den ρ (E x) (a.eval x)) (hI : ∀ x, ∀ i ∈ (E x).ids, i < M.length) (hM : MRel ρ M w) (h : evO Γ wr tb M E o.op = some (r, M', vs)) (hv : allP vs)
    {next : Act → World → Prop} {Q : Exit → Act → World → Prop}
    (K : ∀ v w' ρ', After ρ M M' w w' ρ' → Den ρ' r v → (∀ i ∈ r.ids, i < M'.length) → next (a.put o.dst v) w') : o.wp P a w next Q := by
  have still : ∀ {r vs}, evS Γ wr M E o.op = some (r, vs) → allP vs → (∀ v w' ρ', After ρ M M w w' ρ' → Den ρ' r v → (∀ i ∈ r.ids, i < M.length) → next (a.put o.dst v) w') → o.wp P a w next Q := by
    intro r vs h hv K
    obtain ⟨z, h1, h2, h3⟩ := evS_sound H hE hI hM h hv
    unfold Oper.wp
    rw [h3]
    exact K z w ρ (After.refl hM) h1 h2
  unfold evO at h
  split at h
  · rename_i t x ho
    rw [fSg_eq] at h
    split at h
    · cases h
    · rename_i hn
      split at h
      · rename_i b hb
        cases h
        have hrun : (execOp a.eval o).run P w = .ok (.value (.pointer (some ⟨w.heap.size, 0, .none⟩))) { w with heap := w.heap.push (.cells (a.eval x).cells t) } := by
          simp [execOp, ho, Instr.box, newVar, newRow]
        unfold Oper.wp
        rw [hrun]
        let l : Loc := { blk := w.heap.size, size := (Γ.sg t).n, room := (Γ.sg t).n, σ := Γ.sg t, ty := t }
        obtain ⟨q1, q2⟩ := boxBlk_rel (ρ := ρ) (l := l) hn hb (hE x) rfl rfl rfl
        refine K _ _ (up ρ M.length l) (After.alloc hM rfl q1 (fun vs e y hy i hi => ?_)) ?_ ?_
        · rw [q2 vs e y hy] at hi; exact hI x i hi
        · simp only [Den]
          rw [up_new]
          exact ⟨rfl, ptr_self rfl rfl, rfl⟩
        · intro i hi; simp [AV.ids] at hi; simp [hi]
      · cases h
  · rename_i t ho
    rw [fSg_eq] at h
    split at h
    · cases h
    · rename_i hn
      cases h
      obtain ⟨i, z, hi, hsz, hz, hzo⟩ := H.parts rfl hn
      have hzr : (zeroValue t).run P w = .ok z w := by unfold zeroValue; simp [run_ti hi, hz]
      have hrun : (execOp a.eval o).run P w = .ok (.value (.pointer (some ⟨w.heap.size, 0, .none⟩))) { w with heap := w.heap.push (.cells z.cells t) } := by
        simp [execOp, ho, Instr.alloc, newVar, newRow, hzr]
      unfold Oper.wp
      rw [hrun]
      let l : Loc := { blk := w.heap.size, size := (Γ.sg t).n, room := (Γ.sg t).n, σ := Γ.sg t, ty := t }
      obtain ⟨q1, q2⟩ := zeroBlk_rel (ρ := ρ) (l := l) hn hzo rfl rfl rfl
      refine K _ _ (up ρ M.length l) (After.alloc hM rfl q1 (fun vs e y hy i hi => ?_)) ?_ ?_
      · rw [q2 vs e y hy] at hi; simp [AV.ids] at hi
      · simp only [Den]
        rw [up_new]
        exact ⟨rfl, ptr_self rfl rfl, rfl⟩
      · intro i hi; simp [AV.ids] at hi; simp [hi]
  · rename_i t x y ho
    have hx := hE x
    split at h
    · rename_i id off σ e
      rw [e] at hx
      obtain ⟨hx, hp⟩ := hx
      split at h
      · rename_i hc
        split at h
        · rename_i M2 hs
          cases h
          obtain ⟨w', hr, hA⟩ := store_sound H hM hc.1 hc.2 hp (hE y) (hI y) hs
          have hrun : (execOp a.eval o).run P w = .ok .skip w' := by simp [execOp, ho, hx, Instr.storeAt, Instr.sureAddr, hr]
          unfold Oper.wp
          rw [hrun]
          exact K _ _ ρ hA trivial (by simp [AV.ids])
        · cases h
      · cases h
    · rename_i id σ e
      rw [e] at hx
      obtain ⟨hx, hp, hsz⟩ := hx
      split at h
      · rename_i hc
        split at h
        · rename_i M2 hs
          cases h
          obtain ⟨w', hr, hA⟩ := store_sound H hM hc.1 hc.2 hp (hE y) (hI y) (storeW_eq hM hsz hs)
          have hrun : (execOp a.eval o).run P w = .ok .skip w' := by simp [execOp, ho, hx, Instr.storeAt, Instr.sureAddr, hr]
          unfold Oper.wp
          rw [hrun]
          exact K _ _ ρ hA trivial (by simp [AV.ids])
        · cases h
      · cases h
    · cases h
  · rename_i c ho
    split at h
    · rename_i n args hc
      split at h
      · rename_i S hS
        split at h
        · rename_i r' M2 vs2 hcall
          cases h
          unfold evCallee at hc
          split at hc
          · rename_i f hcal
            have hf := hE f
            have hfi := hI f
            split at hc
            · rename_i n' caps e
              simp only [Option.some.injEq, Prod.mk.injEq] at hc
              obtain ⟨rfl, rfl⟩ := hc
              rw [e] at hf hfi
              obtain ⟨hf1, hf2⟩ := hf
              have hargs : Dens ρ ((c.args.toList).map E ++ caps.map fun p => .pw p.1 p.2) ((c.args.toList).map a.eval ++ caps.map fun c => Value.pointer (some ⟨(ρ c.1).blk, 0, .none⟩)) :=
                dens_app (dens_map hE _) (dens_caps caps hf2)
              have hids : ∀ x ∈ ((c.args.toList).map E ++ caps.map fun p => AV.pw p.1 p.2), ∀ i ∈ x.ids, i < M.length := by
                intro x hx i hi
                rw [List.mem_append, List.mem_map, List.mem_map] at hx
                rcases hx with ⟨y, -, rfl⟩ | ⟨p, hp, rfl⟩
                · exact hI y i hi
                · simp only [AV.ids, List.mem_singleton] at hi
                  subst hi
                  exact hfi p.1 (by simp only [AV.ids]; exact List.mem_map_of_mem hp)
              have hcs := call_spec (htb.sound n' S hS) hcall hv ρ _ w hargs hM hids
              have hrun : (execOp a.eval o).run P w = .ok (.enter n' ((c.args.toList).map a.eval ++ caps.map fun c => Value.pointer (some ⟨(ρ c.1).blk, 0, .none⟩)).toArray) w := by
                have hen := htb.enter n' S hS
                simp only [execOp, ho, resolve, hcal, hf1, Deferred.ofValue, Sem.run_bind, Sem.run_pure, Result.andThen_ok, invoke]
                rw [hen]
                congr 2
                apply Array.toList_inj.1
                simp
              unfold Oper.wp
              rw [hrun]
              simp only [Oper.upon_enter]
              refine hcs.mono ?_
              rintro e' w' ⟨v, ρ', rfl, hd, hA, hi⟩
              exact K v w' ρ' hA hd hi
            · cases hc
          · cases hc
        · cases h
      · cases h
    · split at h
      · rename_i r' v' hs
        cases h
        exact still (by rw [ho]; exact hs) hv K
      · cases h
  · rename_i t len ps ho
    split at h
    · rename_i r' b hs
      cases h
      obtain ⟨v, w', ρ', h1, h2, h3, h4⟩ := newSl_sound (w := w) H hE hM hs
      unfold Oper.wp
      have hrun : (execOp a.eval o).run P w = .ok (.value v) w' := by simp [execOp, ho, h1]
      rw [hrun]
      exact K v w' ρ' h2 h3 h4
    · cases h
  · split at h
    · rename_i r' v' hs
      cases h
      exact still hs hv K
    · cases h

end Go.Eng
