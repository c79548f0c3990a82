/- The engine, part 6c: frozen rows, and addresses within rows. No conditions. -/
import Derived.Test.YtfelemoefhbphaaEng6b
namespace Go.Eng
open Go Go.RowKit
variable {P : Program} {Γ : Tab}

theorem getD_some {α : Type} {l : List α} {i : Nat} (h : i < l.length) (d : α) : l[i]? = some (l.getD i d) := by
  rw [List.getD_eq_getElem?_getD, List.getElem?_eq_getElem h]; rfl

/-- A part of a row that lies somewhere is loaded. -/
theorem partOf_sound (H : TabOk P Γ) {ρ : Rho} {w : World} {t : TypeId} {k b o : Nat} {σ τ : Sg} {xs : List Int} {r : AV} (ht : Γ.sg t = τ) (hpτ : τ.pure = true) (hτ0 : 0 < τ.n) (ho : o + τ.n ≤ σ.n)
    (hk : ∀ j, j < τ.n → σ.flat.getD (o + j) .bool = τ.flat.getD j .bool) {C : Array Value} {ty : TypeId} {fz : Nat × Nat} (hb : w.heap[k]? = some (.cells C ty fz)) (hr : rowAt C σ b xs) (h : partOf σ τ o xs = some r) :
    ∃ z, Den ρ r z ∧ r.ids = [] ∧ (loadVar t ⟨k, b + o, none⟩).run P w = .ok z w := by
  obtain ⟨hl, hx⟩ := hr
  have hne : τ ≠ .none := by rintro rfl; simp [Sg.n] at hτ0
  have hfl := Sg.flat_len τ hpτ
  have agg : (∃ d, P.underlying t = some d ∧ (match d with | .struct _ | .array _ _ => true | _ => false) = true) →
      ∃ z, Den ρ (.ag τ ((xs.drop o).take τ.n)) z ∧ (loadVar t ⟨k, b + o, none⟩).run P w = .ok z w := by
    rintro ⟨d, hu, hd⟩
    obtain ⟨i, z, hi, hsz, -, -⟩ := H.parts ht hne
    have hlen : ((xs.drop o).take τ.n).length = τ.n := by rw [List.length_take, List.length_drop]; omega
    have hget : ∀ (j : Nat) (y : Int), ((xs.drop o).take τ.n)[j]? = some y → C[b + o + j]? = some ((τ.flat.getD j .bool).val y) ∧ (τ.flat.getD j .bool).ok y := by
      intro j y hj
      have hjl : j < τ.n := by have := (List.getElem?_eq_some_iff.1 hj).1; omega
      rw [List.getElem?_take_of_lt hjl, List.getElem?_drop] at hj
      have := hx _ _ hj
      rw [hk j hjl] at this
      rw [Nat.add_assoc]; exact this
    have hok : cellsOk τ.flat ((xs.drop o).take τ.n) := by
      have ext : ∀ {ks : List CK} {xs : List Int}, (∀ (j : Nat) (x : Int) (k : CK), xs[j]? = some x → ks[j]? = some k → k.ok x) → cellsOk ks xs := by
        intro ks
        induction ks with
        | nil => intro xs _; cases xs <;> trivial
        | cons k ks ih =>
          intro xs h
          cases xs with
          | nil => trivial
          | cons x xs => exact ⟨h 0 x k rfl rfl, ih fun j x k h1 h2 => h (j + 1) x k (by simpa using h1) (by simpa using h2)⟩
      refine ext fun j x k hj hkj => ?_
      have := (hget j x hj).2
      rwa [List.getD_eq_getElem?_getD, hkj] at this
    refine ⟨_, ⟨rfl, hlen, hok, hpτ⟩, ?_⟩
    have hag : (isAgg t).run P w = .ok true w := by
      unfold isAgg
      simp only [Sem.run_bind, run_underlying hu, Result.andThen_ok]
      cases d <;> first | rfl | cases hd
    have hso : (sizeOf t).run P w = .ok τ.n w := run_so hi hsz w
    have hvl := cellsV_len τ.flat ((xs.drop o).take τ.n) (by omega)
    have hload := run_loadCells_list (P := P) w ⟨k, b + o, none⟩ (cellsV τ.flat ((xs.drop o).take τ.n)) (fun j v hv => by
      have : (⟨k, b + o, none⟩ : Addr).add j = ⟨k, b + o + j, none⟩ := add_addr ..
      rw [this]
      refine run_load_c hb ?_
      rw [cellsV_getE] at hv
      cases hkj : τ.flat[j]? with
      | none => rw [hkj] at hv; cases hv
      | some kk =>
        rw [hkj] at hv
        cases hyj : ((xs.drop o).take τ.n)[j]? with
        | none => rw [hyj] at hv; cases hv
        | some y =>
          rw [hyj] at hv
          simp only [Option.bind_some, Option.map_some, Option.some.injEq] at hv
          have := (hget j y hyj).1
          rw [List.getD_eq_getElem?_getD, hkj] at this
          rw [← hv]; exact this)
    rw [hvl, hlen] at hload
    unfold loadVar
    simp only [Sem.run_bind, hag, Result.andThen_ok, if_true, hso, hload, Sem.run_pure]
  have whole : o = 0 ∧ τ = σ → (xs.drop o).take τ.n = xs := by
    rintro ⟨rfl, rfl⟩
    rw [List.drop_zero, ← hl, List.take_length]
  unfold partOf at h
  split at h
  · rename_i kk hinf
    cases h
    obtain ⟨f1, f2, f3⟩ := Sg.cell_flat τ kk hinf
    have hlt : o < xs.length := by omega
    have h0 := hx o xs[o] (List.getElem?_eq_getElem hlt)
    have hk0 := hk 0 (by omega)
    rw [Nat.add_zero, f1, List.getD_cons_zero] at hk0
    rw [hk0] at h0
    have hu := H.cell ht hinf
    refine ⟨kk.val xs[o], ?_, by cases kk <;> rfl, ?_⟩
    · rw [List.getD_eq_getElem?_getD, List.getElem?_eq_getElem hlt]; exact den_cell ρ h0.2
    · have hag : (isAgg t).run P w = .ok false w := by
        unfold isAgg
        simp only [Sem.run_bind, run_underlying hu, Result.andThen_ok]
        cases kk <;> rfl
      unfold loadVar
      simp only [Sem.run_bind, hag, Result.andThen_ok]
      simp [run_load, run_load_c hb h0.1]
  · rename_i n e hinf
    obtain ⟨t', hu, -, -⟩ := H.arr ht hinf
    obtain ⟨z, h1, h2⟩ := agg ⟨_, hu, rfl⟩
    split at h
    · rename_i hc
      cases h
      rw [whole hc] at h1
      exact ⟨z, h1, rfl, h2⟩
    · cases h; exact ⟨z, h1, rfl, h2⟩
  · rename_i fs hinf
    obtain ⟨gs, hu, -, -, -⟩ := H.st ht hne hinf
    obtain ⟨z, h1, h2⟩ := agg ⟨_, hu, rfl⟩
    split at h
    · rename_i hc
      cases h
      rw [whole hc] at h1
      exact ⟨z, h1, rfl, h2⟩
    · cases h; exact ⟨z, h1, rfl, h2⟩
  · cases h

/-- What a load within rows yields. -/
def rowLoad (Γ : Tab) (M : List Blk) (t : TypeId) : AV → Option AV
  | .lp id i o σ τ => if Γ.sg t = τ ∧ τ ≠ .none then lpLoad M id i o σ τ else .none
  | .fp o σ τ xs => if Γ.sg t = τ ∧ τ ≠ .none then partOf σ τ o xs else .none
  | .fq σ rows => if Γ.sg t = .ref then some (.fs σ rows) else .none
  | .fqs s => if Γ.sg t = .str then some (.s s) else .none
  | _ => .none

theorem load_one {w : World} {t : TypeId} {k b : Nat} {d : TypeDesc} {C : Array Value} {ty : TypeId} {fz : Nat × Nat} {y : Value} (hd : (match d with | .struct _ | .array _ _ => true | _ => false) = false) (hu : P.underlying t = some d)
    (hb : w.heap[k]? = some (.cells C ty fz)) (hy : C[b]? = some y) : (loadVar t ⟨k, b, none⟩).run P w = .ok y w := by
  have hag : (isAgg t).run P w = .ok false w := by
    unfold isAgg
    simp only [Sem.run_bind, run_underlying hu, Result.andThen_ok]
    cases d <;> first | rfl | cases hd
  unfold loadVar
  simp only [Sem.run_bind, hag, Result.andThen_ok]
  simp [run_load, run_load_c hb hy]

theorem rowLoad_sound (H : TabOk P Γ) {ρ : Rho} {M : List Blk} {w : World} (hM : MRel ρ M w) {t : TypeId} {x r : AV} {v : Value} (hd : Den ρ x v) (h : rowLoad Γ M t x = some r) :
    ∃ z, Den ρ r z ∧ r.ids = [] ∧ (Instr.loadAt t v).run P w = .ok z w := by
  unfold rowLoad at h
  split at h
  · split at h
    · rename_i hc
      obtain ⟨z, a, h1, h2, rfl, h3⟩ := lpLoad_sound H hM hc.1 hd h
      exact ⟨z, h1, h2, by simp [Instr.loadAt, Instr.sureAddr, h3]⟩
    · cases h
  · split at h
    · rename_i hc
      obtain ⟨-, hpτ, hτ0, ho, hk, k, b, C, ty, fz, rfl, hF, hr⟩ := hd
      obtain ⟨z, h1, h2, h3⟩ := partOf_sound (ρ := ρ) H hc.1 hpτ hτ0 ho hk (hM.env k _ hF).1 hr h
      exact ⟨z, h1, h2, by simp [Instr.loadAt, Instr.sureAddr, h3]⟩
    · cases h
  · split at h
    · rename_i hc
      cases h
      obtain ⟨k, b, C, ty, fz, y, rfl, hF, hy, hfs⟩ := hd
      obtain ⟨d, hu, hdd⟩ := H.refs hc
      exact ⟨y, hfs, rfl, by simp [Instr.loadAt, Instr.sureAddr, load_one hdd hu (hM.env k _ hF).1 hy]⟩
    · cases h
  · split at h
    · rename_i hc
      cases h
      obtain ⟨hs, k, b, C, ty, fz, rfl, hF, hy⟩ := hd
      exact ⟨_, ⟨rfl, hs⟩, rfl, by simp [Instr.loadAt, Instr.sureAddr, load_one rfl (H.str hc) (hM.env k _ hF).1 hy]⟩
    · cases h
  · cases h

/-- Where a field of an element lies. -/
def rowFld (Γ : Tab) (t : TypeId) (f : Nat) : AV → Option AV
  | .lp id i o σ τ => if Γ.sg t = τ ∧ τ ≠ .none then (match τ.inf with
      | .st fs => (match fldAt fs f with
        | some (o', τ') => if τ' = .none then .none else some (.lp id i (o + o') σ τ')
        | .none => .none)
      | _ => .none) else .none
  | .fp o σ τ xs => if Γ.sg t = τ ∧ τ ≠ .none then (match τ.inf with
      | .st fs => (match fldAt fs f with
        | some (o', τ') => if τ' = .none then .none else some (.fp (o + o') σ τ' xs)
        | .none => .none)
      | _ => .none) else .none
  | _ => .none

theorem fldAt_mem : ∀ {fs : List Sg} {i o : Nat} {τ : Sg}, fldAt fs i = some (o, τ) → τ ∈ fs
  | σ :: l, 0, o, τ, h => by simp only [fldAt, Option.some.injEq, Prod.mk.injEq] at h; rw [← h.2]; exact List.mem_cons_self
  | σ :: l, i + 1, o, τ, h => by
    simp only [fldAt] at h
    split at h
    · rename_i o' τ' h'
      simp only [Option.some.injEq, Prod.mk.injEq] at h
      rw [← h.2]
      exact List.mem_cons_of_mem _ (fldAt_mem h')
    · cases h

theorem rowFld_sound (H : TabOk P Γ) {ρ : Rho} {t : TypeId} {f : Nat} {x r : AV} {v : Value} (h : rowFld Γ t f x = some r) (hd : Den ρ x v) (w : World) :
    ∃ z, Den ρ r z ∧ (∀ i ∈ r.ids, i ∈ x.ids) ∧ (Instr.fieldAt t v f).run P w = .ok z w := by
  have core : ∀ (σ τ τ' : Sg) (o o' k b : Nat) (fs : List Sg), Γ.sg t = τ → τ ≠ .none → τ.inf = .st fs → fldAt fs f = some (o', τ') → τ' ≠ .none → τ.pure = true → o + τ.n ≤ σ.n →
      (∀ j, j < τ.n → σ.flat.getD (o + j) .bool = τ.flat.getD j .bool) →
      τ'.pure = true ∧ 0 < τ'.n ∧ (o + o') + τ'.n ≤ σ.n ∧ (∀ j, j < τ'.n → σ.flat.getD (o + o' + j) .bool = τ'.flat.getD j .bool) ∧
      (Instr.fieldAt t (.pointer (some ⟨k, b + o, .none⟩)) f).run P w = .ok (.pointer (some ⟨k, b + (o + o'), .none⟩)) w := by
    intro σ τ τ' o o' k b fs ht hn hi hf hτ' hpτ ho hk
    obtain ⟨gs, hu, hfo, -, -⟩ := H.st ht hn hi
    obtain ⟨g, hg, go, gt, -⟩ := fldsOk_at hfo hf
    obtain ⟨i, z, hinf, hsz, -, -⟩ := H.parts gt hτ'
    obtain ⟨f1, f2, f3⟩ := Sg.st_flat τ fs hi
    obtain ⟨q1, q2⟩ := flats_fld fs f o' τ' f3 hf
    have hp' := f3 τ' (fldAt_mem hf)
    have h0 : 0 < τ'.n := by cases τ' <;> first | (exact absurd rfl hτ') | decide
    refine ⟨hp', h0, by omega, fun j hj => ?_, ?_⟩
    · rw [Nat.add_assoc, hk (o' + j) (by omega), List.getD_eq_getElem?_getD, f1, q2 j hj, ← List.getD_eq_getElem?_getD]
    · have hn0 : ¬ τ'.n = 0 := by omega
      simp only [Instr.fieldAt, Sem.run_bind, run_underlying hu, Result.andThen_ok, hg, Instr.sureAddr, Sem.run_pure, fieldPlace, run_so hinf hsz, hn0, if_false, add_addr, go, Nat.add_assoc]
  unfold rowFld at h
  split at h
  · split at h
    · rename_i id i o σ τ hc
      split at h
      · rename_i fs hi
        split at h
        · rename_i o' τ' hf
          split at h
          · cases h
          · rename_i hτ
            cases h
            obtain ⟨rfl, hs, hpσ, hpτ, h0, ho, hsz, hk⟩ := hd
            obtain ⟨c1, c2, c3, c4, c5⟩ := core σ τ τ' o o' _ _ fs hc.1 hc.2 hi hf hτ hpτ ho hk
            exact ⟨_, ⟨rfl, hs, hpσ, c1, c2, c3, hsz, c4⟩, fun i hi => hi, c5⟩
        · cases h
      · cases h
    · cases h
  · split at h
    · rename_i o σ τ xs hc
      split at h
      · rename_i fs hi
        split at h
        · rename_i o' τ' hf
          split at h
          · cases h
          · rename_i hτ
            cases h
            obtain ⟨hpσ, hpτ, h0, ho, hk, k, b, C, ty, fz, rfl, hF, hr⟩ := hd
            obtain ⟨c1, c2, c3, c4, c5⟩ := core σ τ τ' o o' k b fs hc.1 hc.2 hi hf hτ hpτ ho hk
            exact ⟨_, ⟨hpσ, c1, c2, c3, c4, k, b, C, ty, fz, rfl, hF, hr⟩, fun i hi => hi, c5⟩
        · cases h
      · cases h
    · cases h
  · cases h

/-- Where an element of a row of elements lies. -/
def rowIdx (Γ : Tab) (t : TypeId) : AV → AV → Option (AV × List Prop)
  | .ow id len σ _, .i _ i => match Γ.sl t with
      | some e => if Γ.sg e = σ ∧ σ ≠ .none ∧ σ.pure = true then some (.lp id i.toNat 0 σ σ, [0 ≤ i ∧ i < (len : Int)]) else .none
      | .none => .none
  | .fs σ rows, .i _ i => match Γ.sl t with
      | some e => if Γ.sg e = σ ∧ σ ≠ .none then some (.fp 0 σ σ (rows.getD i.toNat []), [0 ≤ i ∧ i < (rows.length : Int)]) else .none
      | .none => .none
  | .fz σ rowss, .i _ i => match Γ.sl t with
      | some e => if Γ.sg e = .ref then some (.fq σ (rowss.getD i.toNat []), [0 ≤ i ∧ i < (rowss.length : Int)]) else .none
      | .none => .none
  | .fstr l, .i _ i => match Γ.sl t with
      | some e => if Γ.sg e = .str then some (.fqs (l.getD i.toNat ByteArray.empty), [0 ≤ i ∧ i < (l.length : Int)]) else .none
      | .none => .none
  | _, _ => .none

theorem rowIdx_sound (H : TabOk P Γ) {ρ : Rho} {t : TypeId} {x y r : AV} {u v : Value} {vcs : List Prop} (h : rowIdx Γ t x y = some (r, vcs)) (hv : allP vcs) (hx : Den ρ x u) (hy : Den ρ y v) (w : World) :
    ∃ z, Den ρ r z ∧ (∀ i ∈ r.ids, i ∈ x.ids) ∧ (Instr.indexAt t u v).run P w = .ok z w := by
  have core : ∀ (e : TypeId) (σ : Sg) (k b : Nat) (n cap : Nat) (kk : IntKind) (i : Int), Γ.sl t = some e → Γ.sg e = σ → σ ≠ .none → 0 ≤ i → i < (n : Int) →
      (Instr.indexAt t (.slice (some ⟨k, b, none⟩) n cap) (.int kk i)).run P w = .ok (.pointer (some ⟨k, b + i.toNat * σ.n, none⟩)) w := by
    intro e σ k b n cap kk i hsl hσ hn h0 h1
    have hu := H.sl t e hsl
    obtain ⟨ti, z, hinf, hsz, -, -⟩ := H.parts hσ hn
    simp only [Instr.indexAt, asIntOf, Sem.run_bind, Sem.run_pure, run_underlying hu, Result.andThen_ok, h0, h1, and_self, if_true, run_so hinf hsz, add_addr]
  unfold rowIdx at h
  split at h
  · split at h
    · rename_i id len σ e0 kk i _ e hsl
      split at h
      · rename_i hc
        cases h
        obtain ⟨cap, rfl, hcap, -, hs, h0, hsz, -⟩ := hx
        obtain ⟨rfl, -⟩ := hy
        have := core e σ (ρ id).blk 0 len cap kk i hsl hc.1 hc.2.1 hv.1.1 hv.1.2
        rw [Nat.zero_add] at this
        refine ⟨_, ⟨rfl, hs, hc.2.2, hc.2.2, h0, by omega, ?_, fun j _ => by rw [Nat.zero_add]⟩, fun i hi => hi, by rw [Nat.add_zero]; exact this⟩
        rw [hsz, ← Nat.succ_mul]
        exact Nat.mul_le_mul_right _ (by have := hv.1; omega)
      · cases h
    · cases h
  · split at h
    · rename_i σ rows kk i _ e hsl
      split at h
      · rename_i hc
        cases h
        obtain ⟨h1, h2, h3, a, cap, rfl, h4, h5⟩ := hx
        obtain ⟨rfl, -⟩ := hy
        obtain ⟨hv0, hv1⟩ := hv.1
        rcases h5 with rfl | ⟨k, b, C, ty, fz, rfl, g2, g3⟩
        · simp at hv1; omega
        · refine ⟨_, ⟨h1, h1, h2, by omega, fun j _ => by rw [Nat.zero_add], k, b + i.toNat * σ.n, C, ty, fz, rfl, g2, g3 i.toNat _ (getD_some (by omega) [])⟩, fun i hi => hi, ?_⟩
          exact core e σ k b rows.length cap kk i hsl hc.1 hc.2 hv0 hv1
      · cases h
    · cases h
  · split at h
    · rename_i σ rowss kk i _ e hsl
      split at h
      · rename_i hc
        cases h
        obtain ⟨h3, a, cap, rfl, h4, h5⟩ := hx
        obtain ⟨rfl, -⟩ := hy
        obtain ⟨hv0, hv1⟩ := hv.1
        rcases h5 with rfl | ⟨k, b, C, ty, fz, rfl, g2, g3⟩
        · simp at hv1; omega
        · obtain ⟨z, hz, hfs⟩ := g3 i.toNat _ (getD_some (by omega) [])
          have := core e .ref k b rowss.length cap kk i hsl hc (by simp) hv0 hv1
          rw [show i.toNat * Sg.ref.n = i.toNat from Nat.mul_one _] at this
          exact ⟨_, ⟨k, b + i.toNat, C, ty, fz, z, rfl, g2, hz, hfs⟩, fun i hi => hi, this⟩
      · cases h
    · cases h
  · split at h
    · rename_i l kk i _ e hsl
      split at h
      · rename_i hc
        cases h
        obtain ⟨h3, a, cap, rfl, h4, h5⟩ := hx
        obtain ⟨rfl, -⟩ := hy
        obtain ⟨hv0, hv1⟩ := hv.1
        rcases h5 with rfl | ⟨k, b, C, ty, fz, rfl, g2, g3⟩
        · simp at hv1; omega
        · obtain ⟨hz, hs⟩ := g3 i.toNat _ (getD_some (by omega) ByteArray.empty)
          have := core e .str k b l.length cap kk i hsl hc (by simp) hv0 hv1
          rw [show i.toNat * Sg.str.n = i.toNat from Nat.mul_one _] at this
          exact ⟨_, ⟨hs, k, b + i.toNat, C, ty, fz, rfl, g2, hz⟩, fun i hi => hi, this⟩
      · cases h
    · cases h
  · cases h

end Go.Eng
