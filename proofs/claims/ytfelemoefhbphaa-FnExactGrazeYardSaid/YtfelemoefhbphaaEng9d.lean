/- The engine, part 9d: rows of zeros; a row that is cut; rows that are frozen. No conditions. -/
import Derived.Test.YtfelemoefhbphaaEng9c
namespace Go.Eng
open Go Go.RowKit
variable {P : Program} {Γ : Tab}

theorem zero_row (H : TabOk P Γ) {e : TypeId} {z : Value} {len : Nat} (hp : (Γ.sg e).pure = true) (hpos : 0 < (Γ.sg e).n) (hzo : zeroOk (Γ.sg e) z = true) :
    ((Array.range (len * (Γ.sg e).n)).map fun x => z.cells[x % z.cells.size]!) = (cellsV (rep len (Γ.sg e).flat) (List.replicate (len * (Γ.sg e).n) 0)).toArray := by
  have hfl := Sg.flat_len _ hp
  have hrl := rep_len (Γ.sg e).flat len
  rw [hfl] at hrl
  have hzc := zero_cells hp hzo
  have hzl : z.cells.size = (Γ.sg e).n := by rw [hzc]; simp [cellsV_len _ _ (by simp [hfl] : (Γ.sg e).flat.length = (List.replicate (Γ.sg e).n (0:Int)).length)]
  apply Array.ext_getElem?
  intro j
  rw [Array.getElem?_map, Array.getElem?_range, List.getElem?_toArray]
  by_cases hj : j < len * (Γ.sg e).n
  · rw [if_pos hj]
    have hdiv : j / (Γ.sg e).n < len := by rw [Nat.div_lt_iff_lt_mul hpos]; exact hj
    have hmod := Nat.mod_lt j hpos
    have hsum : j / (Γ.sg e).n * (Γ.sg e).n + j % (Γ.sg e).n = j := by rw [Nat.mul_comm]; exact Nat.div_add_mod j (Γ.sg e).n
    have hr := rep_get (Γ.sg e).flat len (j / (Γ.sg e).n) (j % (Γ.sg e).n) hdiv (by omega)
    rw [hfl, hsum] at hr
    have hk : (Γ.sg e).flat[j % (Γ.sg e).n]? = some ((Γ.sg e).flat[j % (Γ.sg e).n]'(by omega)) := List.getElem?_eq_getElem _
    rw [hk] at hr
    rw [cellsV_get _ _ j 0 _ (by rw [List.getElem?_replicate, if_pos hj]) hr]
    have h2 := cellsV_get (Γ.sg e).flat (List.replicate (Γ.sg e).n 0) (j % (Γ.sg e).n) 0 _ (by rw [List.getElem?_replicate, if_pos hmod]) hk
    simp only [Option.map_some, hzl]
    rw [hzc, Array.getElem!_eq_getD, Array.getD_eq_getD_getElem?, List.getElem?_toArray, h2]
    rfl
  · rw [if_neg hj, List.getElem?_eq_none (by rw [cellsV_len _ _ (by simp [hrl])]; simp; omega)]
    rfl

/-- make. -/
def mkAV (Γ : Tab) (M : List Blk) (t : TypeId) (len cap : AV) : Option (AV × Blk × List Prop) :=
  match Γ.sl t, len, cap with
  | some e, .i _ n, .i _ c => fSg (Γ.sg e) fun σ => match σ with
    | .str => some (.ow M.length n.toNat .str e, .s (List.replicate n.toNat ByteArray.empty), [0 ≤ n ∧ c = n ∧ n ≤ 1073741824])
    | σ => if σ.pure = true ∧ σ ≠ .none then some (.ow M.length n.toNat σ e, .l σ (List.replicate n.toNat (List.replicate σ.n 0)), [0 ≤ n ∧ c = n ∧ n ≤ 1073741824]) else .none
  | _, _, _ => .none

theorem mkAV_sound (H : TabOk P Γ) {ρ : Rho} {M : List Blk} {w : World} (hM : MRel ρ M w) {t : TypeId} {x y r : AV} {u v : Value} {b : Blk} {vs : List Prop} (hx : Den ρ x u) (hy : Den ρ y v)
    (h : mkAV Γ M t x y = some (r, b, vs)) (hv : allP vs) :
    ∃ z w' ρ', (Instr.makeSlice t u v).run P w = .ok z w' ∧ After ρ M (M ++ [b]) w w' ρ' ∧ Den ρ' r z ∧ ∀ i ∈ r.ids, i < (M ++ [b]).length := by
  unfold mkAV at h
  split at h
  case h_2 => cases h
  rename_i e k n k' c hsl
  obtain ⟨rfl, hk⟩ := hx
  obtain ⟨rfl, hk'⟩ := hy
  rw [fSg_eq] at h
  have hu := H.sl t e hsl
  have run : ∀ (cells : Array Value), Γ.sg e ≠ .none → 0 ≤ n → c = n → n ≤ 1073741824 → (∀ ti z, P.info? e = some ti → ti.zero = some z → zeroOk (Γ.sg e) z = true → ((Array.range (n.toNat * (Γ.sg e).n)).map fun x => z.cells[x % z.cells.size]!) = cells) →
      (Instr.makeSlice t (.int k n) (.int k' c)).run P w = .ok (.slice (some ⟨w.heap.size, 0, none⟩) n.toNat n.toNat) { w with heap := w.heap.push (.cells cells e) } := by
    intro cells hne h0 hcn h30 hcells
    subst hcn
    obtain ⟨ti, z, hti, hsz, hz, hzo, hby⟩ := H.parts5 rfl hne
    have hcl := hcells ti z hti hz hzo
    have hwr : IntKind.i64.wrap c = c := wrap_of_rng (by simp only [rng, Eng.lo, Eng.hi]; omega)
    have hb2 : (ti.bytes : Int) * c ≤ 4096 * 1073741824 := Int.mul_le_mul (by omega) h30 h0 (by omega)
    have hlt1 : ¬ c < 0 := by omega
    have hlt2 : ¬ ((ti.bytes : Int) * c > 2 ^ 48) := by omega
    have hzv : (zeroValue e).run P w = .ok z w := by simp [zeroValue, run_ti hti, hz]
    have hcells' : (if c.toNat * (Γ.sg e).n = 0 then pure #[] else do pure (← zeroValue e).cells : Sem (Array Value)).run P w = .ok (if c.toNat * (Γ.sg e).n = 0 then #[] else z.cells) w := by
      split
      · rfl
      · simp [hzv]
    have hfin : ((Array.range (c.toNat * (Γ.sg e).n)).map fun x => (if c.toNat * (Γ.sg e).n = 0 then (#[] : Array Value) else z.cells)[x % (if c.toNat * (Γ.sg e).n = 0 then (#[] : Array Value) else z.cells).size]!) = cells := by
      by_cases h0' : c.toNat * (Γ.sg e).n = 0
      · rw [← hcl, h0']; simp
      · simp only [if_neg h0']; exact hcl
    have hz0 : (0 : Int) ≤ c := h0
    simp only [Instr.makeSlice, Sem.run_bind, run_underlying hu, Result.andThen_ok, asInt, asIntOf, Sem.run_pure, run_ti hti, hwr, run_so hti hsz]
    simp only [hlt1, hlt2, decide_false, Bool.or_false, Bool.false_eq_true, Int.lt_irrefl, gt_iff_lt, if_false, Sem.run_bind, Result.andThen_ok, hcells', hfin, or_self, false_or]
    simp [askRoom, newRow]
    simp only [run_so hti hsz, Result.andThen_ok]
    by_cases h0' : c.toNat * (Γ.sg e).n = 0
    · have hq : Array.map (fun _ => (default : Value)) (Array.range (c.toNat * (Γ.sg e).n)) = cells := by rw [← hcl, h0']; simp
      rw [if_pos h0', hq]
    · rw [if_neg h0', hzv, Result.andThen_ok, hcl]
  have s0 : Γ.sg e = .str → _ := fun hσ => run (List.replicate n.toNat (Value.string ByteArray.empty)).toArray (by rw [hσ]; simp)
  have s1 : (Γ.sg e).pure = true → Γ.sg e ≠ .none → _ := fun hp hne => run (cellsV (rep n.toNat (Γ.sg e).flat) (List.replicate (n.toNat * (Γ.sg e).n) 0)).toArray hne
  split at h
  · rename_i hσ
    cases h
    obtain ⟨⟨h0, hc, h30⟩, -⟩ := hv
    have hr := s0 hσ h0 hc h30 (fun ti z hi hz hzo => by
      rw [hσ] at hzo ⊢
      have hz2 : z = .string ByteArray.empty := by
        unfold zeroOk at hzo
        split at hzo <;> simp_all [Sg.pure, Sg.inf]
      subst hz2
      apply Array.ext_getElem?
      intro j
      simp only [Sg.n, Nat.mul_one, Array.getElem?_map, Array.getElem?_range, List.getElem?_toArray, List.getElem?_replicate]
      split
      · simp [Value.cells, Nat.mod_one]
      · rfl)
    let lc : Loc := { blk := w.heap.size, size := n.toNat * 1, room := n.toNat * 1, σ := .str, ty := e }
    refine ⟨_, _, up ρ M.length lc, hr, After.alloc (l := lc) hM rfl ?_ (fun vs e => by cases e), ?_, fun i hi => by simp [AV.ids] at hi; simp [hi]⟩
    · refine ⟨_, rfl, by simp [lc], rfl, by simp [lc], Nat.le_refl _, fun j x hj => ?_⟩
      rw [List.getElem?_replicate] at hj
      split at hj
      · rename_i hjl
        cases hj
        exact ⟨by rw [List.getElem?_toArray, List.getElem?_replicate, if_pos hjl], by simp [maxLen]⟩
      · cases hj
    · simp only [Den]
      rw [up_new]
      exact ⟨n.toNat, rfl, Nat.le_refl _, by simp only [maxLen]; omega, rfl, Nat.one_pos, rfl, rfl, rfl⟩
  · split at h
    case isFalse => cases h
    rename_i hc0
    cases h
    obtain ⟨⟨h0, hc, h30⟩, -⟩ := hv
    obtain ⟨hp, hne⟩ := hc0
    have hpos := sg_pos hne
    have hr := s1 hp hne h0 hc h30 (fun ti z hi hz hzo => zero_row H hp hpos hzo)
    have hfl := Sg.flat_len _ hp
    have hrl := rep_len (Γ.sg e).flat n.toNat
    rw [hfl] at hrl
    let lc : Loc := { blk := w.heap.size, size := n.toNat * (Γ.sg e).n, room := n.toNat * (Γ.sg e).n, σ := Γ.sg e, ty := e }
    have hzl : (cellsV (rep n.toNat (Γ.sg e).flat) (List.replicate (n.toNat * (Γ.sg e).n) 0)).length = n.toNat * (Γ.sg e).n := by
      rw [cellsV_len _ _ (by simp [hrl])]; simp
    refine ⟨_, _, up ρ M.length lc, hr, After.alloc (l := lc) hM rfl ?_ (fun vs e => by cases e), ?_, fun i hi => by simp [AV.ids] at hi; simp [hi]⟩
    · refine ⟨_, rfl, by simp [lc, hzl], rfl, hp, hpos, by simp [lc], Nat.le_refl _, fun i row hi => ?_⟩
      rw [List.getElem?_replicate] at hi
      split at hi
      · rename_i hil
        cases hi
        refine ⟨by simp, fun j y hj => ?_⟩
        rw [List.getElem?_replicate] at hj
        split at hj
        · rename_i hjl
          cases hj
          have hr2 := rep_get (Γ.sg e).flat n.toNat i j hil (by omega)
          rw [hfl] at hr2
          have hk2 : (Γ.sg e).flat[j]? = some ((Γ.sg e).flat.getD j .bool) := getD_some (by omega) _
          rw [hk2] at hr2
          have hlt : i * (Γ.sg e).n + j < n.toNat * (Γ.sg e).n := by
            have : (i + 1) * (Γ.sg e).n ≤ n.toNat * (Γ.sg e).n := Nat.mul_le_mul_right _ hil
            rw [Nat.succ_mul] at this; omega
          refine ⟨?_, ?_⟩
          · rw [Nat.zero_add, List.getElem?_toArray]
            exact cellsV_get _ _ _ 0 _ (by rw [List.getElem?_replicate, if_pos hlt]) hr2
          · cases (Γ.sg e).flat.getD j .bool with
            | int k => cases k <;> simp [CK.ok, rng, lo, Eng.hi]
            | bool => exact .inl rfl
        · cases hj
      · cases hi
    · simp only [Den]
      rw [up_new]
      exact ⟨n.toNat, rfl, Nat.le_refl _, (by simp only [maxLen]; omega), rfl, hpos, rfl, rfl, rfl⟩

/-- A row of one's own, cut short: the id is another. -/
def cutAV (Γ : Tab) (M : List Blk) (t : TypeId) (x : AV) (lo hi mx : Option Int) : Option (AV × List Blk × List Prop) :=
  match x, lo, hi, mx with
  | .ow id n σ e, .none, some h, .none => (match Γ.sl t with
    | some e' => if Γ.sg e' = σ ∧ σ ≠ .none then (match M[id]? with
      | some (.l σ' rows) => some (.ow M.length h.toNat σ e, M.set id .dead ++ [.l σ' (rows.take h.toNat)], [0 ≤ h ∧ h ≤ (n : Int)])
      | some (.s l) => some (.ow M.length h.toNat σ e, M.set id .dead ++ [.s (l.take h.toNat)], [0 ≤ h ∧ h ≤ (n : Int)])
      | _ => .none) else .none
    | .none => .none)
  | _, _, _, _ => .none

theorem cutAV_sound (H : TabOk P Γ) {ρ : Rho} {M M' : List Blk} {w : World} (hM : MRel ρ M w) {t : TypeId} {x r : AV} {v : Value} {lo hi mx : Option Int} {low high max : Option Value} {vs : List Prop}
    (h : cutAV Γ M t x lo hi mx = some (r, M', vs)) (hv : allP vs) (hd : Den ρ x v) (hl : BV lo low) (hh : BV hi high) (hm : BV mx max) :
    ∃ z ρ', (Instr.sliceAt t v low high max).run P w = .ok z w ∧ After ρ M M' w w ρ' ∧ Den ρ' r z ∧ ∀ i ∈ r.ids, i < M'.length := by
  unfold cutAV at h
  split at h
  case h_2 => cases h
  rename_i id n σ e hn
  split at h
  case h_2 => cases h
  rename_i e' hsl
  split at h
  case isFalse => cases h
  rename_i hc
  cases low with
  | some _ => cases hl
  | none =>
  cases max with
  | some _ => cases hm
  | none =>
  have hu := H.sl t e' hsl
  obtain ⟨ti, z, hinf, hsz, -, -⟩ := H.parts hc.1 hc.2
  obtain ⟨cap, rfl, q1, q2, q3, q4, q5, q6, q7⟩ := hd
  have fin : ∀ (b b' : Blk) (nb : Nat), M[id]? = some b → b.live = true → b'.live = true → (∀ vs, b' ≠ .r vs) → 0 ≤ hn → hn ≤ (n : Int) →
      (∀ l : Loc, l.blk = (ρ id).blk → l.size = hn.toNat * σ.n → l.room = (ρ id).room → l.σ = σ → l.ty = (ρ id).ty → BRel ρ l w.heap[(ρ id).blk]? b') →
      r = .ow M.length hn.toNat σ e → M' = M.set id .dead ++ [b'] →
      ∃ z ρ', (Instr.sliceAt t (.slice (some ⟨(ρ id).blk, 0, none⟩) n cap) none high none).run P w = .ok z w ∧ After ρ M M' w w ρ' ∧ Den ρ' r z ∧ ∀ i ∈ r.ids, i < M'.length := by
    intro b b' nb hb hbl hbl' hnr h0 h1 hrel hr hM'
    subst hr
    subst hM'
    obtain ⟨b1, b2, b3⟩ := sliceBounds_run (P := P) (w := w) (b := true) hl hh q1 (show allP (subP n .none (some hn)) from ⟨⟨h0, h1⟩, trivial⟩)
    have hlive : liveAt M id := ⟨b, hb, hbl⟩
    obtain ⟨o, ho⟩ : ∃ o, w.heap[(ρ id).blk]? = some o := ⟨_, Array.getElem?_eq_getElem (hM.blk_lt hlive)⟩
    let l : Loc := { blk := (ρ id).blk, size := hn.toNat * σ.n, room := (ρ id).room, σ := σ, ty := (ρ id).ty }
    have hlt := hlive.lt
    have hA : After ρ M (M.set id .dead ++ [b']) w w (up ρ M.length l) := by
      refine After.grown (row := some (ρ id).blk) (o := o) hM ⟨rfl, rfl, rfl, Nat.le_refl _, fun _ _ _ => rfl⟩ (.inr rfl) ho (by rw [← ho]; exact hrel l rfl rfl rfl rfl rfl) hbl' (fun vs e => absurd e (hnr vs)) (by simp) ?_ (fun k h => by cases h; exact ⟨id, hlive, rfl⟩) ?_
      · intro i d hd
        rw [List.getElem?_set] at hd
        split at hd
        · cases hd; exact .inl rfl
        · exact .inr hd
      · rintro i ⟨d, hd, hdl⟩ he
        rw [List.getElem?_set] at hd
        split at hd
        · cases hd; cases hdl
        · rename_i hne'
          exact hne' (hM.inj i id ⟨d, hd, hdl⟩ hlive (by simpa using he)).symm
    refine ⟨.slice (some ⟨(ρ id).blk, 0, none⟩) hn.toNat cap, up ρ M.length l, ?_, hA, ?_, fun i hi => by simp [AV.ids] at hi; simp [hi]⟩
    · have : (if cap = loN .none then (some (⟨(ρ id).blk, 0, none⟩ : Addr)) else (some (⟨(ρ id).blk, 0, none⟩ : Addr)).map (·.add (loN .none * σ.n))) = some ⟨(ρ id).blk, 0, none⟩ := by
        split <;> simp [loN, add_addr]
      simp only [Instr.sliceAt, Instr.slice, Sem.run_bind, run_underlying hu, Result.andThen_ok, b1, run_so hinf hsz, Sem.run_pure, this]
      simp only [hiN, loN, Nat.sub_zero]
    · simp only [Den]
      rw [up_new]
      exact ⟨cap, rfl, by omega, q2, rfl, q4, rfl, q6, q7⟩
  split at h
  · rename_i σ' rows hmm
    cases h
    obtain ⟨⟨h0, h1⟩, -⟩ := hv
    obtain ⟨C, c1, c2, c3, c4, c5, c6, c7, c8⟩ := hM.blk id _ hmm
    have hσ : σ' = σ := by rw [← c3, q3]
    subst hσ
    have hlen : rows.length = n := Nat.eq_of_mul_eq_mul_right c5 (by rw [c6, q5])
    refine fin _ _ 0 hmm rfl rfl (fun vs e => by cases e) h0 h1 (fun l l1 l2 l3 l4 l5 => ?_) rfl rfl
    refine ⟨C, by rw [c1, l5], by rw [c2, l3], l4, c4, c5, ?_, ?_, fun i row hi => ?_⟩
    · rw [l2, List.length_take, hlen, Nat.min_eq_left (by omega)]
    · rw [l2, l3, q6]; exact Nat.mul_le_mul_right _ (by omega)
    · rw [List.getElem?_take] at hi
      split at hi
      · exact c8 i row hi
      · cases hi
  · rename_i ss hmm
    cases h
    obtain ⟨⟨h0, h1⟩, -⟩ := hv
    obtain ⟨C, c1, c2, c3, c6, c7, c8⟩ := hM.blk id _ hmm
    have hσ : σ = .str := by rw [← q3, c3]
    subst hσ
    have hlen : ss.length = n := by rw [c6, q5]; simp [Sg.n]
    refine fin _ _ 0 hmm rfl rfl (fun vs e => by cases e) h0 h1 (fun l l1 l2 l3 l4 l5 => ?_) rfl rfl
    refine ⟨C, by rw [c1, l5], by rw [c2, l3], l4, ?_, ?_, fun i row hi => ?_⟩
    · rw [l2, List.length_take, hlen, Nat.min_eq_left (by omega)]; simp [Sg.n]
    · rw [l2, l3, q6]; exact Nat.mul_le_mul_right _ (by omega)
    · rw [List.getElem?_take] at hi
      split at hi
      · exact c8 i row hi
      · cases hi
  · cases h

/-- What a row is once it is frozen. -/
def frozenAV (n : Nat) : Blk → Option AV
  | .l σ rows => some (.fs σ rows)
  | .s l => some (.fstr l)
  | .rf τ l => some (.fz τ l)
  | _ => .none

/-- A row is frozen: from here on nobody writes there. -/
theorem After.freeze {ρ : Rho} {M : List Blk} {w : World} (hM : MRel ρ M w) {id n : Nat} {σ : Sg} {e : TypeId} {c : Cn} {v : Value} (hm : M[id]? = some c.blk) (hd : Den ρ (.ow id n σ e) v) :
    ∃ ρ' : Rho, After ρ M (M.set id .dead) w w ρ' ∧ (∀ i, ρ' i = ρ i) ∧ Den ρ' (match c with | .l σ rows => .fs σ rows | .s l => .fstr l | .f τ l => .fz τ l) v := by
  have hlive : liveAt M id := ⟨_, hm, cn_live c⟩
  obtain ⟨C, b1, b2, b3, b4, b5, b6, b7, b8⟩ := (cn_brel c).1 (hM.blk id _ hm)
  obtain ⟨cap, rfl, q1, q2, q3, q4, q5, q6, q7⟩ := hd
  have hs : c.sg = σ := by rw [← b3, q3]
  have hn : c.len = n := Nat.eq_of_mul_eq_mul_right q4 (by rw [← hs, b6, hs, q5])
  let ρ' : Rho := ⟨ρ.loc, fun k => if k = (ρ id).blk then some (.cells C (ρ id).ty (0, 0)) else ρ.F k⟩
  have hle : ρ.le ρ' := fun k o hk => by
    show (if k = (ρ id).blk then _ else ρ.F k) = some o
    rw [if_neg (fun e => (hM.env k o hk).2 id hlive e.symm)]; exact hk
  have hF : ρ'.F (ρ id).blk = some (.cells C (ρ id).ty (0, 0)) := by
    show (if (ρ id).blk = (ρ id).blk then _ else _) = _
    rw [if_pos rfl]
  have l1 : ∀ i, liveAt (M.set id .dead) i → liveAt M i ∧ i ≠ id := by
    rintro i ⟨d, hd, hdl⟩
    rw [List.getElem?_set] at hd
    split at hd
    · split at hd
      · cases hd; cases hdl
      · cases hd
    · rename_i hne; exact ⟨⟨d, hd, hdl⟩, fun e => hne e.symm⟩
  refine ⟨ρ', ⟨fun _ _ => rfl, ⟨fun i d hd => ?_, fun i j hi hj he => hM.inj i j (l1 i hi).1 (l1 j hj).1 he, fun i vs hd x hx j hj => ?_, fun k o hk => ?_⟩, by simp, fun i _ hi => (l1 i hi).1, fun i hi hl => ?_, fun _ _ _ => rfl, rfl, rfl, rfl, Nat.le_refl _, hle, fun k o hk => ?_⟩, fun _ => rfl, ?_⟩
  · rw [List.getElem?_set] at hd
    split at hd
    · split at hd
      · cases hd; trivial
      · cases hd
    · exact (hM.blk i d hd).congr hle (fun _ _ _ _ _ _ => rfl)
  · rw [List.length_set]
    rw [List.getElem?_set] at hd
    split at hd
    · split at hd <;> cases hd
    · exact hM.cl i vs hd x hx j hj
  · change (if k = (ρ id).blk then _ else ρ.F k) = some o at hk
    split at hk
    · rename_i e
      cases hk
      subst e
      exact ⟨b1, fun i hi he => (l1 i hi).2 (hM.inj i id (l1 i hi).1 hlive he)⟩
    · exact ⟨(hM.env k o hk).1, fun i hi => (hM.env k o hk).2 i (l1 i hi).1⟩
  · have := (l1 i hl).1.lt; omega
  · change (if k = (ρ id).blk then _ else ρ.F k) = some o at hk
    split at hk
    · rename_i e; exact .inr (.inr ⟨id, hlive, e.symm⟩)
    · exact .inl hk
  · cases c with
    | l σ' rows =>
      exact ⟨b4, b5, by rw [show rows.length = n from hn]; omega, _, cap, by rw [show rows.length = n from hn], by rw [show rows.length = n from hn]; exact q1, .inr ⟨_, 0, C, _, _, rfl, hF, b8⟩⟩
    | s l =>
      exact ⟨by rw [show l.length = n from hn]; omega, _, cap, by rw [show l.length = n from hn], by rw [show l.length = n from hn]; exact q1, .inr ⟨_, 0, C, _, _, rfl, hF, b8⟩⟩
    | f τ l =>
      exact ⟨by rw [show l.length = n from hn]; omega, _, cap, by rw [show l.length = n from hn], by rw [show l.length = n from hn]; exact q1, .inr ⟨_, 0, C, _, _, rfl, hF, fun j rows hj => (b8 j rows hj).imp fun y hy => ⟨hy.1, hy.2.mono hle⟩⟩⟩

end Go.Eng
