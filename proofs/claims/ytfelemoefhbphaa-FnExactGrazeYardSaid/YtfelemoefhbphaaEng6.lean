/- The engine, part 6: what an operation that leaves memory alone comes to. No conditions. -/
import Derived.Test.YtfelemoefhbphaaEng5b
namespace Go.Eng
open Go Go.RowKit
variable {P : Program} {Γ : Tab}

def asB : AV → Option Bool
  | .b p => some p
  | .d p => some p
  | _ => .none

theorem asB_den {ρ : Rho} {x : AV} {p : Bool} {v : Value} (h : asB x = some p) (hd : Den ρ x v) : v = .bool p := by
  cases x <;> simp only [asB, Option.some.injEq, reduceCtorEq] at h <;> subst h <;> exact hd

def evBin (Γ : Tab) (wr : Bool) (op : BinOp) (t : TypeId) (x y : AV) : Option (AV × List Prop) :=
  match x, y with
  | .i k a, .i k' b => evInt wr op k k' a b
  | .ag σ xs, .ag σ' ys => if Γ.sg t = σ ∧ σ' = σ ∧ σ ≠ .none then (match σ.inf with
      | .cell _ => .none
      | _ => match op with
        | .eql => some (.b (decide (xs = ys)), [])
        | .neq => some (.b (!decide (xs = ys)), [])
        | _ => .none) else .none
  | .s a, .s b => match op with
    | .eql => some (.b (decide (a = b)), [])
    | .neq => some (.b (!decide (a = b)), [])
    | .add => some (.s (a ++ b), [(a ++ b).size ≤ maxLen])
    | .lss => some (.b (Op.bytesLess a.toList b.toList), [])
    | _ => .none
  | .fs _ rows, .nsl => if (Γ.sl t).isSome = true then (match op with
      | .eql => some (.d false, [0 < rows.length])
      | .neq => some (.d true, [0 < rows.length])
      | _ => .none) else .none
  | .ow _ _ _ _, .nsl => if (Γ.sl t).isSome = true then (match op with
      | .eql => some (.d false, [])
      | .neq => some (.d true, [])
      | _ => .none) else .none
  | .nsl, .nsl => if (Γ.sl t).isSome = true then (match op with
      | .eql => some (.d true, [])
      | .neq => some (.d false, [])
      | _ => .none) else .none
  | x, y => match asB x, asB y with
    | some p, some q => if Γ.sg t = .bool then (match op with
      | .eql => some (.b (p == q), [])
      | .neq => some (.b (!(p == q)), [])
      | _ => .none) else .none
    | _, _ => .none

theorem run_eqGuard_any (w : World) (op : BinOp) (t : TypeId) (x y : Operand) (a b : Value) (h1 : ¬ (a = .nilIface ∧ b = .nilIface)) (h2 : ∀ cs ds, ¬ (a = .agg cs ∧ b = .agg ds)) : (eqGuard op t x y a b).run P w = .ok () w := by
  unfold eqGuard
  split <;> simp only [Bool.not_true, Bool.not_false, Bool.false_eq_true, if_false, if_true]
  all_goals first
    | rfl
    | (split
       · exact absurd ⟨rfl, rfl⟩ h1
       · exact absurd ⟨rfl, rfl⟩ (h2 _ _)
       · rfl)

theorem nil_cmp (H : TabOk P Γ) {ρ : Rho} {op : BinOp} {t : TypeId} {r : AV} {vcs : List Prop} (ox oy : Operand) {a : Option Addr} {l c : Nat} {e d : Bool} (hs : (Γ.sl t).isSome = true) (ha : a.isNone = e) (hd : d = !e)
    (h : (match op with | .eql => some (AV.d e, vcs) | .neq => some (AV.d d, vcs) | _ => .none) = some (r, vcs)) (w : World) :
    ∃ z, Den ρ r z ∧ r.ids = [] ∧ (eqGuard op t ox oy (.slice a l c) (.slice none 0 0)).run P w = .ok () w ∧ (binOp op t (.slice a l c) (.slice none 0 0)).run P w = .ok z w := by
  obtain ⟨e', he'⟩ := Option.isSome_iff_exists.1 hs
  have hu := H.sl t e' he'
  have hq : (Op.equalIn (9999 + 1) t (.slice a l c) (.slice none 0 0)).run P w = .ok a.isNone w := by
    generalize 9999 = m
    cases a <;> simp [Op.equalIn, run_underlying hu]
  subst hd
  refine (fun k : ∃ z, Den ρ r z ∧ r.ids = [] ∧ (binOp op t (.slice a l c) (.slice none 0 0)).run P w = .ok z w => ?_) ?_
  · obtain ⟨z, k1, k2, k3⟩ := k
    exact ⟨z, k1, k2, run_eqGuard_any w op t ox oy _ _ (by simp) (by simp), k3⟩
  split at h
  · cases h; exact ⟨.bool e, rfl, rfl, by simp [binOp, Op.equal, Op.maxDepth, hq, ha]⟩
  · cases h; exact ⟨.bool (!e), rfl, rfl, by simp [binOp, Op.equal, Op.maxDepth, hq, ha]⟩
  · cases h

theorem evBin_sound (H : TabOk P Γ) {ρ : Rho} {wr : Bool} {op : BinOp} {t : TypeId} {x y r : AV} {u v : Value} {vcs : List Prop} (ox oy : Operand) (h : evBin Γ wr op t x y = some (r, vcs)) (hv : allP vcs)
    (hx : Den ρ x u) (hy : Den ρ y v) (w : World) :
    ∃ z, Den ρ r z ∧ r.ids = [] ∧ (eqGuard op t ox oy u v).run P w = .ok () w ∧ (binOp op t u v).run P w = .ok z w := by
  unfold evBin at h
  split at h
  · obtain ⟨rfl, -⟩ := hx
    obtain ⟨rfl, -⟩ := hy
    obtain ⟨z, h1, h2, h3⟩ := evInt_sound (P := P) (ρ := ρ) t h hv w
    exact ⟨z, h1, h2, run_eqGuard_int w op t ox oy _ _ _ _, h3⟩
  · split at h
    · rename_i σ xs σ' ys hc
      obtain ⟨ht, hs, hn⟩ := hc
      subst hs
      obtain ⟨rfl, l1, o1, hp⟩ := hx
      obtain ⟨rfl, l2, o2, -⟩ := hy
      have hg : P.eqGuardType P.depth t = false := by
        cases hi : σ'.inf with
        | cell k => rw [hi] at h; cases h
        | arr n e => exact (H.arr ht hi).choose_spec.2.2
        | st fs => exact (H.st ht hn hi).choose_spec.2.2.2
        | str => exact absurd hi (pure_no hp).1
        | ref => exact absurd hi (pure_no hp).2
      have hd : σ'.dep < 4 := by cases σ' <;> decide
      have he := eq_sound H w 4 σ' t 9996 xs ys hd ht hn hp l1 l2 o1 o2
      have hval : ∀ zs, (match σ'.inf with | .cell _ => False | _ => True) → valOf σ' zs = .agg (cellsV σ'.flat zs).toArray := by
        intro zs hc; unfold valOf; split <;> first | rfl | (rename_i e; rw [e] at hc; exact hc.elim)
      cases hi : σ'.inf with
      | cell k => rw [hi] at h; cases h
      | str => exact absurd hi (pure_no hp).1
      | ref => exact absurd hi (pure_no hp).2
      | arr n e =>
        rw [hi] at h
        rw [hval xs (by rw [hi]; trivial), hval ys (by rw [hi]; trivial)] at he
        dsimp only at h
        split at h
        · cases h; exact ⟨_, rfl, rfl, run_eqGuard_agg w _ t ox oy _ _ hg, by rw [run_eql_struct, he]; rfl⟩
        · cases h; exact ⟨_, rfl, rfl, run_eqGuard_agg w _ t ox oy _ _ hg, by rw [run_neq_struct, he]; rfl⟩
        · cases h
      | st fs =>
        rw [hi] at h
        rw [hval xs (by rw [hi]; trivial), hval ys (by rw [hi]; trivial)] at he
        dsimp only at h
        split at h
        · cases h; exact ⟨_, rfl, rfl, run_eqGuard_agg w _ t ox oy _ _ hg, by rw [run_eql_struct, he]; rfl⟩
        · cases h; exact ⟨_, rfl, rfl, run_eqGuard_agg w _ t ox oy _ _ hg, by rw [run_neq_struct, he]; rfl⟩
        · cases h
    · cases h
  · obtain ⟨rfl, -⟩ := hx
    obtain ⟨rfl, -⟩ := hy
    rename_i a b
    have hb : (a.toList == b.toList) = decide (a = b) := by
      rw [Bool.eq_iff_iff, beq_iff_eq, decide_eq_true_iff, ByteArray.toList_eq, ByteArray.toList_eq]
      obtain ⟨⟨x⟩⟩ := a
      obtain ⟨⟨y⟩⟩ := b
      simp
    refine (fun k : ∃ z, Den ρ r z ∧ r.ids = [] ∧ (binOp op t (.string a) (.string b)).run P w = .ok z w => ?_) ?_
    · obtain ⟨z, k1, k2, k3⟩ := k
      exact ⟨z, k1, k2, run_eqGuard_any w op t ox oy _ _ (by simp) (by simp), k3⟩
    split at h
    · cases h; exact ⟨_, rfl, rfl, by simp [binOp, Op.stringOp, hb]⟩
    · cases h; exact ⟨_, rfl, rfl, by simp [binOp, Op.stringOp, hb]⟩
    · cases h
      have h1 : (a ++ b).size ≤ maxLen := hv.1
      refine ⟨_, ⟨rfl, h1⟩, rfl, ?_⟩
      have h2 : ¬ (((a.size + b.size : Nat) : Int) > IntKind.i64.max) := by
        rw [ByteArray.size_append] at h1
        unfold maxLen at h1
        simp [IntKind.max, IntKind.signed, IntKind.bits]
        omega
      simp only [binOp, Op.stringOp]
      rw [if_neg h2]
      rfl
    · cases h; exact ⟨_, rfl, rfl, by simp [binOp, Op.stringOp]⟩
    · cases h
  · split at h
    · rename_i hs
      obtain ⟨-, -, -, a, cap, rfl, -, hx⟩ := hx
      subst hy
      rename_i rows
      have hvc : vcs = [0 < rows.length] := by split at h <;> cases h <;> rfl
      subst hvc
      have ha : a.isNone = false := by
        rcases hx with e | ⟨k, o, C, ty, fz, rfl, -⟩
        · have := hv.1; rw [e] at this; cases this
        · rfl
      exact nil_cmp H ox oy hs ha rfl (by cases op <;> first | exact h | cases h) w
    · cases h
  · split at h
    · rename_i hs
      obtain ⟨cap, rfl, -⟩ := hx
      subst hy
      have hvc : vcs = [] := by split at h <;> cases h <;> rfl
      subst hvc
      exact nil_cmp H ox oy hs (by rfl) rfl (by cases op <;> first | exact h | cases h) w
    · cases h
  · split at h
    · rename_i hs
      subst hx
      subst hy
      have hvc : vcs = [] := by split at h <;> cases h <;> rfl
      subst hvc
      exact nil_cmp H ox oy hs (by rfl) rfl (by cases op <;> first | exact h | cases h) w
    · cases h
  · split at h
    · rename_i p q hp hq
      have e1 := asB_den hp hx
      have e2 := asB_den hq hy
      subst e1
      subst e2
      split at h
      · rename_i ht
        have hu := H.cell ht (k := .bool) rfl
        have he := run_equalIn_bool w 9999 t p q hu
        refine (fun k : ∃ z, Den ρ r z ∧ r.ids = [] ∧ (binOp op t (.bool p) (.bool q)).run P w = .ok z w => ?_) ?_
        · obtain ⟨z, k1, k2, k3⟩ := k
          exact ⟨z, k1, k2, run_eqGuard_any w op t ox oy _ _ (by simp) (by simp), k3⟩
        split at h
        · cases h; exact ⟨_, rfl, rfl, by simp [binOp, Op.equal, Op.maxDepth, he]⟩
        · cases h; exact ⟨_, rfl, rfl, by simp [binOp, Op.equal, Op.maxDepth, he]⟩
        · cases h
      · cases h
    · cases h


/-- The address of field f. -/
def fldAV (Γ : Tab) (t : TypeId) (f : Nat) : AV → Option AV
  | .p id off σ => if Γ.sg t = σ ∧ σ ≠ .none then (match σ.inf with
      | .st fs => (match fldAt fs f with
        | some (o, τ) => if τ = .none then .none else some (.p id (off + o) τ)
        | .none => .none)
      | _ => .none) else .none
  | .pw id σ => if Γ.sg t = σ ∧ σ ≠ .none then (match σ.inf with
      | .st fs => (match fldAt fs f with
        | some (o, τ) => if τ = .none then .none else some (.p id o τ)
        | .none => .none)
      | _ => .none) else .none
  | _ => .none

theorem add_addr (b off j : Nat) : (⟨b, off, .none⟩ : Addr).add j = ⟨b, off + j, .none⟩ := by
  unfold Addr.add; split <;> simp_all

theorem ptr_fld {l : Loc} {off o : Nat} {σ τ : Sg} {fs : List Sg} {f : Nat} (hp : PtrOk l off σ) (hi : σ.inf = .st fs) (hf : fldAt fs f = some (o, τ)) : PtrOk l (off + o) τ ∧ τ.pure = true := by
  obtain ⟨g1, g2, g3⟩ := Sg.st_flat σ fs hi
  obtain ⟨q1, q2⟩ := flats_fld fs f o τ g3 hf
  have hpu : σ.pure = true := by cases σ <;> first | rfl | cases hi
  have hmem : τ ∈ fs := by
    clear hp hi g1 g2 q1 q2
    induction fs generalizing f o with
    | nil => simp [fldAt] at hf
    | cons a l ih =>
      cases f with
      | zero => simp only [fldAt, Option.some.injEq, Prod.mk.injEq] at hf; rw [← hf.2]; exact List.mem_cons_self
      | succ f =>
        simp only [fldAt] at hf
        split at hf
        · rename_i o' τ' h'
          simp only [Option.some.injEq, Prod.mk.injEq] at hf
          rw [← hf.2]
          exact List.mem_cons_of_mem _ (by rw [hf.2]; exact ih (o := o') (f := f) (by rw [h', hf.2]) (fun τ h => g3 τ (List.mem_cons_of_mem _ h)))
        · cases hf
  have ht := g3 τ hmem
  obtain ⟨p1, p2⟩ := hp
  rw [if_pos hpu] at p2
  refine ⟨⟨by omega, ?_⟩, ht⟩
  rw [if_pos ht]
  refine ⟨p2.1, fun j hj => ?_⟩
  have := p2.2 (o + j) (by omega)
  rw [Nat.add_assoc, this, List.getD_eq_getElem?_getD, g1, q2 j hj, ← List.getD_eq_getElem?_getD]

theorem fldAV_sound (H : TabOk P Γ) {ρ : Rho} {t : TypeId} {f : Nat} {x r : AV} {v : Value} (h : fldAV Γ t f x = some r) (hd : Den ρ x v) (w : World) :
    ∃ z, Den ρ r z ∧ (∀ i ∈ r.ids, i ∈ x.ids) ∧ (Instr.fieldAt t v f).run P w = .ok z w := by
  have core : ∀ (id off : Nat) (σ : Sg) (fs : List Sg) (o : Nat) (τ : Sg), Γ.sg t = σ → σ ≠ .none → σ.inf = .st fs → fldAt fs f = some (o, τ) → τ ≠ .none → PtrOk (ρ id) off σ →
      PtrOk (ρ id) (off + o) τ ∧ (Instr.fieldAt t (.pointer (some ⟨(ρ id).blk, off, .none⟩)) f).run P w = .ok (.pointer (some ⟨(ρ id).blk, off + o, .none⟩)) w := by
    intro id off σ fs o τ ht hn hi hf hτ hp
    obtain ⟨gs, hu, hfo, -, -⟩ := H.st ht hn hi
    obtain ⟨g, hg, go, gt, -⟩ := fldsOk_at hfo hf
    obtain ⟨i, z, hinf, hsz, -, -⟩ := H.parts gt hτ
    obtain ⟨p1, p2⟩ := ptr_fld hp hi hf
    refine ⟨p1, ?_⟩
    have hn0 : ¬ τ.n = 0 := by cases τ <;> first | (exact absurd rfl hτ) | decide
    simp only [Instr.fieldAt, Sem.run_bind, run_underlying hu, Result.andThen_ok, hg, Instr.sureAddr, Sem.run_pure, fieldPlace, run_so hinf hsz, hn0, if_false, add_addr, go]
  unfold fldAV at h
  split at h
  · split at h
    · rename_i id off σ hc
      split at h
      · rename_i fs hi
        split at h
        · rename_i o τ hf
          split at h
          · cases h
          · rename_i hτ
            cases h
            obtain ⟨rfl, hp⟩ := hd
            obtain ⟨c1, c2⟩ := core id off σ fs o τ hc.1 hc.2 hi hf hτ hp
            exact ⟨_, ⟨rfl, c1⟩, fun i hi => hi, c2⟩
        · cases h
      · cases h
    · cases h
  · split at h
    · rename_i id σ hc
      split at h
      · rename_i fs hi
        split at h
        · rename_i o τ hf
          split at h
          · cases h
          · rename_i hτ
            cases h
            obtain ⟨rfl, hp, -⟩ := hd
            obtain ⟨c1, c2⟩ := core id 0 σ fs o τ hc.1 hc.2 hi hf hτ hp
            rw [Nat.zero_add] at c1 c2
            exact ⟨_, ⟨rfl, c1⟩, fun i hi => hi, c2⟩
        · cases h
      · cases h
    · cases h
  · cases h

/-- The address of element i: of an array behind a pointer, of a slice. -/
def idxAV (Γ : Tab) (t : TypeId) : AV → AV → Option (AV × List Prop)
  | .p id off σ, .i _ i => if Γ.sg t = σ then (match σ.inf with
      | .arr n e => some (.p id (off + i.toNat * e.n) e, [0 ≤ i ∧ i < (n : Int)])
      | _ => .none) else .none
  | .pw id σ, .i _ i => if Γ.sg t = σ then (match σ.inf with
      | .arr n e => some (.p id (i.toNat * e.n) e, [0 ≤ i ∧ i < (n : Int)])
      | _ => .none) else .none
  | .ow id len σ _, .i _ i => match Γ.sl t with
      | some e => if Γ.sg e = σ ∧ σ ≠ .none then some (.p id (i.toNat * σ.n) σ, [0 ≤ i ∧ i < (len : Int)]) else .none
      | .none => .none
  | .sl id off len σ, .i _ i => match Γ.sl t with
      | some e => if Γ.sg e = σ ∧ σ ≠ .none then some (.p id (off + i.toNat * σ.n) σ, [0 ≤ i ∧ i < (len : Int)]) else .none
      | .none => .none
  | _, _ => .none

theorem ptr_idx {l : Loc} {off n i : Nat} {σ e : Sg} (hp : PtrOk l off σ) (hi : σ.inf = .arr n e) (hlt : i < n) : PtrOk l (off + i * e.n) e := by
  obtain ⟨g1, g2, g3, g4⟩ := Sg.arr_flat σ e n hi
  have hpu : σ.pure = true := by cases σ <;> first | rfl | cases hi
  obtain ⟨p1, p2⟩ := hp
  rw [if_pos hpu] at p2
  have hel := Sg.flat_len e g3
  have hle : i * e.n + e.n ≤ σ.n := by rw [g2, ← Nat.succ_mul]; exact Nat.mul_le_mul_right _ hlt
  refine ⟨by omega, ?_⟩
  rw [if_pos g3]
  refine ⟨p2.1, fun j hj => ?_⟩
  have := p2.2 (i * e.n + j) (by omega)
  have hr := rep_get e.flat n i j hlt (by omega)
  rw [hel] at hr
  rw [Nat.add_assoc, this, List.getD_eq_getElem?_getD, g1, hr, ← List.getD_eq_getElem?_getD]

theorem ptr_sl {l : Loc} {off len i : Nat} {σ : Sg} (hs : l.σ = σ) (ho : off % σ.n = 0) (hle : off + len * σ.n ≤ l.size) (hlt : i < len) : PtrOk l (off + i * σ.n) σ := by
  have h1 : i * σ.n + σ.n ≤ len * σ.n := by rw [← Nat.succ_mul]; exact Nat.mul_le_mul_right _ hlt
  refine ⟨by omega, ?_⟩
  split
  · rename_i hp
    refine ⟨by rw [hs]; exact hp, fun j hj => ?_⟩
    unfold Loc.kind
    rw [hs]
    congr 1
    rw [Nat.add_assoc, Nat.add_mod, ho, Nat.zero_add, Nat.mod_mod, Nat.add_comm, Nat.add_mul_mod_self_right, Nat.mod_eq_of_lt hj]
  · exact hs

theorem idxAV_sound (H : TabOk P Γ) {ρ : Rho} {t : TypeId} {x y r : AV} {u v : Value} {vcs : List Prop} (h : idxAV Γ t x y = some (r, vcs)) (hv : allP vcs) (hx : Den ρ x u) (hy : Den ρ y v) (w : World) :
    ∃ z, Den ρ r z ∧ (∀ i ∈ r.ids, i ∈ x.ids) ∧ (Instr.indexAt t u v).run P w = .ok z w := by
  have core : ∀ (id off n : Nat) (σ e : Sg) (k : IntKind) (i : Int), Γ.sg t = σ → σ.inf = .arr n e → PtrOk (ρ id) off σ → 0 ≤ i → i < (n : Int) →
      PtrOk (ρ id) (off + i.toNat * e.n) e ∧ (Instr.indexAt t (.pointer (some ⟨(ρ id).blk, off, .none⟩)) (.int k i)).run P w = .ok (.pointer (some ⟨(ρ id).blk, off + i.toNat * e.n, .none⟩)) w := by
    intro id off n σ e k i ht hi hp h0 h1
    obtain ⟨t', hu, he, -⟩ := H.arr ht hi
    obtain ⟨g1, g2, g3, g4⟩ := Sg.arr_flat σ e n hi
    have hne : e ≠ .none := by rintro rfl; simp [Sg.n] at g4
    obtain ⟨ti, z, hinf, hsz, -, -⟩ := H.parts he hne
    refine ⟨ptr_idx hp hi (by omega), ?_⟩
    simp only [Instr.indexAt, asIntOf, Sem.run_bind, Sem.run_pure, run_underlying hu, Result.andThen_ok, Instr.sureAddr, h0, h1, and_self, if_true, run_so hinf hsz, add_addr]
  unfold idxAV at h
  split at h
  · split at h
    · rename_i id off σ k i ht
      split at h
      · rename_i n e hi
        cases h
        obtain ⟨rfl, hp⟩ := hx
        obtain ⟨rfl, -⟩ := hy
        obtain ⟨c1, c2⟩ := core id off n σ e k i ht hi hp hv.1.1 hv.1.2
        exact ⟨_, ⟨rfl, c1⟩, fun i hi => hi, c2⟩
      · cases h
    · cases h
  · split at h
    · rename_i id σ k i ht
      split at h
      · rename_i n e hi
        cases h
        obtain ⟨rfl, hp, -⟩ := hx
        obtain ⟨rfl, -⟩ := hy
        obtain ⟨c1, c2⟩ := core id 0 n σ e k i ht hi hp hv.1.1 hv.1.2
        rw [Nat.zero_add] at c1 c2
        exact ⟨_, ⟨rfl, c1⟩, fun i hi => hi, c2⟩
      · cases h
    · cases h
  · split at h
    · rename_i id len σ e0 k i _ e hsl
      split at h
      · rename_i hc
        cases h
        obtain ⟨cap, rfl, hcap, -, hs, -, hsz', -⟩ := hx
        obtain ⟨rfl, -⟩ := hy
        obtain ⟨h0, h1⟩ := hv.1
        have hu := H.sl t e hsl
        obtain ⟨ti, z, hinf, hsz, -, -⟩ := H.parts hc.1 hc.2
        have hpt := ptr_sl (off := 0) (i := i.toNat) hs (Nat.zero_mod _) (len := len) (by omega) (by omega)
        rw [Nat.zero_add] at hpt
        refine ⟨_, ⟨rfl, hpt⟩, fun i hi => hi, ?_⟩
        simp only [Instr.indexAt, asIntOf, Sem.run_bind, Sem.run_pure, run_underlying hu, Result.andThen_ok, h0, h1, and_self, if_true, run_so hinf hsz, add_addr, Nat.zero_add]
      · cases h
    · cases h
  · split at h
    · rename_i id off len σ k i _ e hsl
      split at h
      · rename_i hc
        cases h
        obtain ⟨cap, rfl, hcap, -, hpt, hle, -⟩ := hx
        obtain ⟨rfl, -⟩ := hy
        obtain ⟨h0, h1⟩ := hv.1
        have hu := H.sl t e hsl
        obtain ⟨ti, z, hinf, hsz, -, -⟩ := H.parts hc.1 hc.2
        refine ⟨_, ⟨rfl, hpt _ (by omega)⟩, fun i hi => hi, ?_⟩
        simp only [Instr.indexAt, asIntOf, Sem.run_bind, Sem.run_pure, run_underlying hu, Result.andThen_ok, h0, h1, and_self, if_true, run_so hinf hsz, add_addr]
      · cases h
    · cases h
  · cases h

end Go.Eng
