/- The engine, part 10: every operation of a region in the text's order. No conditions. -/
import Derived.Test.YtfelemoefhbphaaEng9e
namespace Go.Eng
open Go Go.RowKit
variable {P : Program} {Γ : Tab}

def evCallee (E : Operand → AV) (c : Call) : Option (FuncId × List AV) :=
  match c.callee with
  | .value f => match E f with
    | .fn n caps => some (n, (c.args.toList).map E ++ caps.map fun p => .pw p.1 p.2)
    | _ => .none
  | _ => .none

/-- One operation: what it yields, memory behind it, what is owed. -/
def evO (Γ : Tab) (wr : Bool) (tb : FuncId → Option Fun) (M : List Blk) (E : Operand → AV) (op : Op) : Option (AV × List Blk × List Prop) :=
  match op with
  | .box t x => fSg (Γ.sg t) fun σ => if σ = .none then .none else (match boxBlk σ (E x) with
    | some b => some (.pw M.length σ, M ++ [b], [])
    | .none => .none)
  | .alloc t => fSg (Γ.sg t) fun σ => if σ = .none then .none else some (.pw M.length σ, M ++ [zeroBlk σ], [])
  | .store t x y => match E x with
    | .p id off σ => if Γ.sg t = σ ∧ σ ≠ .none then (match storeAV M id off σ (E y) with
      | some M' => some (.any, M', [])
      | .none => .none) else .none
    | .pw id σ => if Γ.sg t = σ ∧ σ ≠ .none then (match storeW M id σ (E y) with
      | some M' => some (.any, M', [])
      | .none => .none) else .none
    | .lp id i o σ τ => if Γ.sg t = τ ∧ τ ≠ .none then (match lpStore M id i o σ τ (E y) with
      | some M' => some (.any, M', [])
      | .none => .none) else .none
    | _ => .none
  | .call c => match evCallee E c with
    | some (n, args) => match tb n with
      | some S => fL args fun args => match callAV S M args with
        | some (r, M', vs) => some (r, M', vs)
        | .none => match frzL args M with
          | some (args', M1) => fM M1 fun M1 => callAV S M1 args'
          | .none => .none
      | .none => .none
    | .none => match evS Γ wr M E (.call c) with
      | some (r, v) => some (r, M, v)
      | .none => match c.callee, c.args.toList with
        | .builtin .append, [x, y] => appAV Γ M c.argTypes (E x) (E y)
        | _, _ => .none
  | .buildSlice t len ps => match newSl Γ M E t len ps with
    | some (r, b) => some (r, M ++ [b], [])
    | .none => .none
  | .makeSlice t len cap => match mkAV Γ M t (E len) (E cap) with
    | some (r, b, v) => some (r, M ++ [b], v)
    | .none => .none
  | .slice t x l h m => match evS Γ wr M E (.slice t x l h m) with
    | some (r, v) => some (r, M, v)
    | .none => match bndAV E l, bndAV E h, bndAV E m with
      | some l, some h, some m => cutAV Γ M t (E x) l h m
      | _, _, _ => .none
  | op => match evS Γ wr M E op with
    | some (r, v) => some (r, M, v)
    | .none => .none

structure TbOk (P : Program) (tb : FuncId → Option Fun) : Prop where
  sound : ∀ n S, tb n = some S → Sound P n S
  enter : ∀ n S, tb n = some S → ∀ args w, (callFunc n args).run P w = .ok (.enter n args) w

theorem enter_ok {n : FuncId} {fn : Func} (h : P.funcs[n]? = some fn) (hb : fn.body.isNone = false) (hn : (fn.name == "runtime.NumGoroutine") = false) (args : Array Value) (w : World) : (callFunc n args).run P w = .ok (.enter n args) w := by
  simp only [callFunc, Sem.run_bind, run_program, Result.andThen_ok, h, hn, hb, Bool.false_eq_true, if_false, Sem.run_pure]

theorem dens_map {ρ : Rho} {E : Operand → AV} {a : Act} (hE : ∀ x, Den ρ (E x) (a.eval x)) : ∀ (l : List Operand), Dens ρ (l.map E) (l.map a.eval)
  | [] => trivial
  | x :: l => ⟨hE x, dens_map hE l⟩

theorem dens_app {ρ : Rho} : ∀ {l : List AV} {r : List Value} {l' : List AV} {r' : List Value}, Dens ρ l r → Dens ρ l' r' → Dens ρ (l ++ l') (r ++ r')
  | [], [], _, _, _, h => h
  | [], _ :: _, _, _, h, _ => h.elim
  | _ :: _, [], _, _, h, _ => h.elim
  | _ :: _, _ :: _, _, _, h, h' => ⟨h.1, dens_app h.2 h'⟩

theorem dens_caps {ρ : Rho} : ∀ (caps : List (Nat × Sg)), (∀ c ∈ caps, PtrOk (ρ c.1) 0 c.2 ∧ (ρ c.1).size = c.2.n) →
    Dens ρ (caps.map fun p => .pw p.1 p.2) (caps.map fun c => Value.pointer (some ⟨(ρ c.1).blk, 0, .none⟩))
  | [], _ => trivial
  | c :: l, h => ⟨⟨rfl, h c List.mem_cons_self⟩, dens_caps l fun c hc => h c (List.mem_cons_of_mem _ hc)⟩

theorem evO_sound (H : TabOk P Γ) {tb : FuncId → Option Fun} (htb : TbOk P tb) {ρ : Rho} {wr : Bool} {M M' : List Blk} {E : Operand → AV} {a : Act} {w : World} {o : Oper} {r : AV} {vs : List Prop}
    (hE : ∀ x, Den ρ (E x) (a.eval x)) (hI : ∀ x, ∀ i ∈ (E x).ids, i < M.length) (hM : MRel ρ M w) (h : evO Γ wr tb M E o.op = some (r, M', vs)) (hv : allP vs)
    {next : Act → World → Prop} {Q : Exit → Act → World → Prop}
    (K : ∀ v w' ρ', After ρ M M' w w' ρ' → Den ρ' r v → (∀ i ∈ r.ids, i < M'.length) → next (a.put o.dst v) w') : o.wp P a w next Q := by
  have still : ∀ {r vs}, evS Γ wr M E o.op = some (r, vs) → allP vs → (∀ v w' ρ', After ρ M M w w' ρ' → Den ρ' r v → (∀ i ∈ r.ids, i < M.length) → next (a.put o.dst v) w') → o.wp P a w next Q := by
    intro r vs h hv K
    obtain ⟨z, h1, h2, h3⟩ := evS_sound H hE hI hM h hv
    unfold Oper.wp
    rw [h3]
    exact K z w ρ (After.refl hM) h1 h2
  unfold evO at h
  split at h
  · rename_i t x ho
    rw [fSg_eq] at h
    split at h
    · cases h
    · rename_i hn
      split at h
      · rename_i b hb
        cases h
        have hrun : (execOp a.eval o).run P w = .ok (.value (.pointer (some ⟨w.heap.size, 0, .none⟩))) { w with heap := w.heap.push (.cells (a.eval x).cells t) } := by
          simp [execOp, ho, Instr.box, newVar, newRow]
        unfold Oper.wp
        rw [hrun]
        let l : Loc := { blk := w.heap.size, size := (Γ.sg t).n, room := (Γ.sg t).n, σ := Γ.sg t, ty := t }
        obtain ⟨q1, q2⟩ := boxBlk_rel (ρ := ρ) (l := l) hn hb (hE x) rfl rfl rfl
        refine K _ _ (up ρ M.length l) (After.alloc hM rfl q1 (fun vs e y hy i hi => ?_)) ?_ ?_
        · rw [q2 vs e y hy] at hi; exact hI x i hi
        · simp only [Den]
          rw [up_new]
          exact ⟨rfl, ptr_self rfl rfl, rfl⟩
        · intro i hi; simp [AV.ids] at hi; simp [hi]
      · cases h
  · rename_i t ho
    rw [fSg_eq] at h
    split at h
    · cases h
    · rename_i hn
      cases h
      obtain ⟨i, z, hi, hsz, hz, hzo⟩ := H.parts rfl hn
      have hzr : (zeroValue t).run P w = .ok z w := by unfold zeroValue; simp [run_ti hi, hz]
      have hrun : (execOp a.eval o).run P w = .ok (.value (.pointer (some ⟨w.heap.size, 0, .none⟩))) { w with heap := w.heap.push (.cells z.cells t) } := by
        simp [execOp, ho, Instr.alloc, newVar, newRow, hzr]
      unfold Oper.wp
      rw [hrun]
      let l : Loc := { blk := w.heap.size, size := (Γ.sg t).n, room := (Γ.sg t).n, σ := Γ.sg t, ty := t }
      obtain ⟨q1, q2⟩ := zeroBlk_rel (ρ := ρ) (l := l) hn hzo rfl rfl rfl
      refine K _ _ (up ρ M.length l) (After.alloc hM rfl q1 (fun vs e y hy i hi => ?_)) ?_ ?_
      · rw [q2 vs e y hy] at hi; simp [AV.ids] at hi
      · simp only [Den]
        rw [up_new]
        exact ⟨rfl, ptr_self rfl rfl, rfl⟩
      · intro i hi; simp [AV.ids] at hi; simp [hi]
  · rename_i t x y ho
    have hx := hE x
    split at h
    · rename_i id off σ e
      rw [e] at hx
      obtain ⟨hx, hp⟩ := hx
      split at h
      · rename_i hc
        split at h
        · rename_i M2 hs
          cases h
          obtain ⟨w', hr, hA⟩ := store_sound H hM hc.1 hc.2 hp (hE y) (hI y) hs
          have hrun : (execOp a.eval o).run P w = .ok .skip w' := by simp [execOp, ho, hx, Instr.storeAt, Instr.sureAddr, hr]
          unfold Oper.wp
          rw [hrun]
          exact K _ _ ρ hA trivial (by simp [AV.ids])
        · cases h
      · cases h
    · rename_i id σ e
      rw [e] at hx
      obtain ⟨hx, hp, hsz⟩ := hx
      split at h
      · rename_i hc
        split at h
        · rename_i M2 hs
          cases h
          obtain ⟨w', hr, hA⟩ := store_sound H hM hc.1 hc.2 hp (hE y) (hI y) (storeW_eq hM hsz hs)
          have hrun : (execOp a.eval o).run P w = .ok .skip w' := by simp [execOp, ho, hx, Instr.storeAt, Instr.sureAddr, hr]
          unfold Oper.wp
          rw [hrun]
          exact K _ _ ρ hA trivial (by simp [AV.ids])
        · cases h
      · cases h
    · rename_i id i o' σ τ e
      rw [e] at hx
      split at h
      · rename_i hc
        split at h
        · rename_i M2 hs
          cases h
          obtain ⟨w', ad, hu, hr, hA⟩ := lpStore_sound H hM hc.1 hx (hE y) hs
          have hrun : (execOp a.eval o).run P w = .ok .skip w' := by simp [execOp, ho, hu, Instr.storeAt, Instr.sureAddr, hr]
          unfold Oper.wp
          rw [hrun]
          exact K _ _ ρ hA trivial (by simp [AV.ids])
        · cases h
      · cases h
    · cases h
  · rename_i c ho
    split at h
    · rename_i n args hc
      split at h
      · rename_i S hS
        rw [fL_eq] at h
        unfold evCallee at hc
        split at hc
        case h_2 => cases hc
        rename_i f hcal
        have hf := hE f
        have hfi := hI f
        split at hc
        case h_2 => cases hc
        rename_i n' caps e
        simp only [Option.some.injEq, Prod.mk.injEq] at hc
        obtain ⟨rfl, rfl⟩ := hc
        rw [e] at hf hfi
        obtain ⟨hf1, hf2⟩ := hf
        have hargs : Dens ρ ((c.args.toList).map E ++ caps.map fun p => .pw p.1 p.2) ((c.args.toList).map a.eval ++ caps.map fun c => Value.pointer (some ⟨(ρ c.1).blk, 0, .none⟩)) :=
          dens_app (dens_map hE _) (dens_caps caps hf2)
        have hids : ∀ x ∈ ((c.args.toList).map E ++ caps.map fun p => AV.pw p.1 p.2), ∀ i ∈ x.ids, i < M.length := by
          intro x hx i hi
          rw [List.mem_append, List.mem_map, List.mem_map] at hx
          rcases hx with ⟨y, -, rfl⟩ | ⟨p, hp, rfl⟩
          · exact hI y i hi
          · simp only [AV.ids, List.mem_singleton] at hi
            subst hi
            exact hfi p.1 (by simp only [AV.ids]; exact List.mem_map_of_mem hp)
        have hrun : (execOp a.eval o).run P w = .ok (.enter n' ((c.args.toList).map a.eval ++ caps.map fun c => Value.pointer (some ⟨(ρ c.1).blk, 0, .none⟩)).toArray) w := by
          have hen := htb.enter n' S hS
          simp only [execOp, ho, resolve, hcal, hf1, Deferred.ofValue, Sem.run_bind, Sem.run_pure, Result.andThen_ok, invoke]
          rw [hen]
          congr 2
          apply Array.toList_inj.1
          simp
        unfold Oper.wp
        rw [hrun]
        simp only [Oper.upon_enter]
        split at h
        · rename_i r' M2 vs2 hcall
          cases h
          refine (call_spec (htb.sound n' S hS) hcall hv ρ _ w hargs hM hids).mono ?_
          rintro e' w' ⟨v, ρ', rfl, hd, hA, hi⟩
          exact K v w' ρ' hA hd hi
        · split at h
          · rename_i args' M1 hz
            rw [fM_eq] at h
            obtain ⟨ρ1, k1, k2, k3, k4, k5⟩ := frzL_sound hM hargs hids hz
            refine (call_spec (htb.sound n' S hS) h hv ρ1 _ w k2 k1.rel k3).mono ?_
            rintro e' w' ⟨v, ρ', rfl, hd, hA, hi⟩
            exact K v w' ρ' (k1.trans hA) hd hi
          · cases h
      · cases h
    · split at h
      · rename_i r' v' hs
        cases h
        exact still (by rw [ho]; exact hs) hv K
      · split at h
        · rename_i x y hcal hargs
          obtain ⟨z, w', ρ', h1, h2, h3, h4⟩ := appAV_sound (ty := o.type) H hM (hE x) (hE y) h hv
          unfold Oper.wp
          have e : c.args.map a.eval = #[a.eval x, a.eval y] := by
            apply Array.toList_inj.1; simp [hargs]
          have hrun : (execOp a.eval o).run P w = .ok (.value z) w' := by
            simp only [execOp, ho, resolve, hcal, invoke, builtin, e, Sem.run_bind, Sem.run_pure, Result.andThen_ok, h1]
          rw [hrun]
          exact K z w' ρ' h2 h3 h4
        · cases h
  · rename_i t len ps ho
    split at h
    · rename_i r' b hs
      cases h
      obtain ⟨v, w', ρ', h1, h2, h3, h4⟩ := newSl_sound (w := w) H hE hM hs
      unfold Oper.wp
      have hrun : (execOp a.eval o).run P w = .ok (.value v) w' := by simp [execOp, ho, h1]
      rw [hrun]
      exact K v w' ρ' h2 h3 h4
    · cases h
  · rename_i t len cap ho
    split at h
    · rename_i r' b v' hs
      cases h
      obtain ⟨z, w', ρ', h1, h2, h3, h4⟩ := mkAV_sound H hM (hE len) (hE cap) hs hv
      unfold Oper.wp
      have hrun : (execOp a.eval o).run P w = .ok (.value z) w' := by simp [execOp, ho, h1]
      rw [hrun]
      exact K z w' ρ' h2 h3 h4
    · cases h
  · rename_i t x lo' hi' mx' ho
    split at h
    · rename_i r' v' hs
      cases h
      exact still (by rw [ho]; exact hs) hv K
    · split at h
      · rename_i l' h' m' el eh em
        have bv : ∀ (o : Option Operand) (n : Option Int), bndAV E o = some n → BV n (o.map a.eval) := by
          intro o n ho
          cases o with
          | none => cases ho; trivial
          | some y =>
            simp only [bndAV] at ho
            split at ho
            · rename_i k n' e
              cases ho
              have := hE y
              rw [e] at this
              exact ⟨k, this⟩
            · cases ho
        obtain ⟨z, ρ', h1, h2, h3, h4⟩ := cutAV_sound H hM h hv (hE x) (bv _ _ el) (bv _ _ eh) (bv _ _ em)
        unfold Oper.wp
        have hrun : (execOp a.eval o).run P w = .ok (.value z) w := by simp [execOp, ho, h1]
        rw [hrun]
        exact K z w ρ' h2 h3 h4
      · cases h
  · split at h
    · rename_i r' v' hs
      cases h
      exact still hs hv K
    · cases h

end Go.Eng
