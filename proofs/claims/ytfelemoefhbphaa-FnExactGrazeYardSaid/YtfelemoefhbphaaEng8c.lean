/- The engine, part 8c: what is built out of parts. No conditions. -/
import Derived.Test.YtfelemoefhbphaaEng8b
namespace Go.Eng
open Go Go.RowKit
variable {P : Program} {Γ : Tab}

theorem foldl_set {off : Nat} : ∀ (l : List Value) (k : Nat) (cs : Array Value) (i : Nat),
    ((l.zipIdx k).foldl (fun cs p => cs.setIfInBounds (off + p.2) p.1) cs)[i]? = if off + k ≤ i ∧ i < off + k + l.length ∧ i < cs.size then l[i - (off + k)]? else cs[i]?
  | [], k, cs, i => by simp; omega
  | v :: l, k, cs, i => by
    simp only [List.zipIdx_cons, List.foldl_cons]
    rw [foldl_set l (k + 1)]
    simp only [Array.size_setIfInBounds, List.length_cons]
    by_cases h1 : off + (k + 1) ≤ i ∧ i < off + (k + 1) + l.length ∧ i < cs.size
    · rw [if_pos h1, if_pos ⟨by omega, by omega, h1.2.2⟩, show i - (off + k) = (i - (off + (k + 1))) + 1 from by omega]
      simp
    · rw [if_neg h1]
      rw [Array.getElem?_setIfInBounds]
      by_cases h2 : off + k = i
      · subst h2
        by_cases h3 : off + k < cs.size
        · rw [if_pos rfl, if_pos h3, if_pos ⟨Nat.le_refl _, by omega, h3⟩]
          simp
        · rw [if_pos rfl, if_neg h3, if_neg (fun h => h3 h.2.2), Array.getElem?_eq_none (by omega)]
      · rw [if_neg h2]
        by_cases h3 : off + k ≤ i ∧ i < off + k + (l.length + 1) ∧ i < cs.size
        · exact absurd ⟨by omega, by omega, h3.2.2⟩ h1
        · rw [if_neg h3]

theorem foldl_seg {off : Nat} {vs : List Value} {cs : List Value} (h : off + vs.length ≤ cs.length) :
    vs.toArray.zipIdx.foldl (fun cs (x : Value × Nat) => cs.setIfInBounds (off + x.2) x.1) cs.toArray = (cs.take off ++ vs ++ cs.drop (off + vs.length)).toArray := by
  apply Array.ext_getElem?
  intro i
  rw [← Array.foldl_toList, Array.toList_zipIdx, foldl_set, List.getElem?_toArray, List.getElem?_toArray, seg_get _ _ _ _ h]
  simp only [Nat.add_zero, List.size_toArray]
  by_cases h1 : off ≤ i ∧ i < off + vs.length
  · rw [if_pos ⟨h1.1, h1.2, by omega⟩, if_pos h1]
  · rw [if_neg (fun h => h1 ⟨h.1, h.2.1⟩), if_neg h1]

theorem cellsV_ext {ks : List CK} {xs : List Int} {cs : List Value} (h1 : xs.length = ks.length) (h2 : cs.length = ks.length) (h : ∀ (j : Nat) (x : Int) (k : CK), xs[j]? = some x → ks[j]? = some k → cs[j]? = some (k.val x)) : cs = cellsV ks xs := by
  apply List.ext_getElem?
  intro j
  by_cases hj : j < ks.length
  · have a := List.getElem?_eq_getElem (l := xs) (i := j) (by omega)
    have b := List.getElem?_eq_getElem (l := ks) (i := j) hj
    rw [h j _ _ a b, cellsV_get ks xs j _ _ a b]
  · rw [List.getElem?_eq_none (by omega), List.getElem?_eq_none (by rw [cellsV_len ks xs h1.symm]; omega)]

theorem cellsOk_ext : ∀ {ks : List CK} {xs : List Int}, (∀ (j : Nat) (x : Int) (k : CK), xs[j]? = some x → ks[j]? = some k → k.ok x) → cellsOk ks xs
  | [], _, _ => trivial
  | _ :: _, [], _ => trivial
  | k :: ks, x :: xs, h => ⟨h 0 x k rfl rfl, cellsOk_ext fun j y k' h1 h2 => h (j + 1) y k' (by simpa using h1) (by simpa using h2)⟩

/-- One part is laid. -/
theorem seg_cells {ks ls : List CK} {xs ys : List Int} {o n : Nat} (hx : xs.length = ks.length) (hy : ys.length = n) (hl : ls.length = n) (ho : o + n ≤ ks.length) (hk : ∀ j, j < n → ks[o + j]? = ls[j]?)
    (hok : cellsOk ks xs) (hoy : cellsOk ls ys) :
    ((cellsV ls ys).toArray.zipIdx.foldl (fun cs (x : Value × Nat) => cs.setIfInBounds (o + x.2) x.1) (cellsV ks xs).toArray = (cellsV ks (putSeg xs o n ys)).toArray) ∧ (putSeg xs o n ys).length = ks.length ∧ cellsOk ks (putSeg xs o n ys) := by
  have hlx := cellsV_len ks xs hx.symm
  have hly := cellsV_len ls ys (by omega)
  have hpl : (putSeg xs o n ys).length = ks.length := by
    unfold putSeg; simp only [List.length_append, List.length_take, List.length_drop]; omega
  have hget : ∀ j, (putSeg xs o n ys)[j]? = if o ≤ j ∧ j < o + n then ys[j - o]? else xs[j]? := by
    intro j
    have := seg_get xs ys o j (by omega)
    rw [hy] at this
    exact this
  have both : ∀ (j : Nat) (x : Int) (k : CK), (putSeg xs o n ys)[j]? = some x → ks[j]? = some k →
      ((cellsV ks xs).take o ++ cellsV ls ys ++ (cellsV ks xs).drop (o + (cellsV ls ys).length))[j]? = some (k.val x) ∧ k.ok x := by
    intro j x k h1 h2
    rw [seg_get _ _ _ _ (by omega), hly, hy]
    rw [hget] at h1
    split at h1
    · rename_i hj
      rw [if_pos hj]
      have h3 : ls[j - o]? = some k := by rw [← hk (j - o) (by omega), show o + (j - o) = j from by omega]; exact h2
      exact ⟨cellsV_get _ _ _ _ _ h1 h3, cellsOk_get _ _ _ _ _ hoy h1 h3⟩
    · rename_i hj
      rw [if_neg hj]
      exact ⟨cellsV_get _ _ _ _ _ h1 h2, cellsOk_get _ _ _ _ _ hok h1 h2⟩
  refine ⟨?_, hpl, cellsOk_ext fun j x k h1 h2 => (both j x k h1 h2).2⟩
  rw [foldl_seg (by omega)]
  congr 1
  refine cellsV_ext hpl ?_ fun j x k h1 h2 => (both j x k h1 h2).1
  simp only [List.length_append, List.length_take, List.length_drop]
  omega

theorem set_putSeg (xs : List Int) (o : Nat) (n : Int) (h : o < xs.length) : xs.set o n = putSeg xs o 1 [n] := by
  unfold putSeg
  rw [List.set_eq_take_append_cons_drop, if_pos h, List.append_assoc]
  rfl

theorem fldAt_mem' : ∀ {fs : List Sg} {i o : Nat} {τ : Sg}, fldAt fs i = some (o, τ) → τ ∈ fs
  | [], i, o, τ, h => by simp [fldAt] at h
  | σ :: l, 0, o, τ, h => by simp [fldAt] at h; simp [h.2]
  | σ :: l, i + 1, o, τ, h => by
    simp only [fldAt] at h
    split at h
    · rename_i o' τ' h'
      cases h
      exact List.mem_cons_of_mem _ (fldAt_mem' h')
    · cases h

theorem fldAt_some' : ∀ (fs : List Sg) (i : Nat), i < fs.length → ∃ o τ, fldAt fs i = some (o, τ)
  | [], i, h => by simp at h
  | σ :: l, 0, _ => ⟨0, σ, rfl⟩
  | σ :: l, i + 1, h => by
    obtain ⟨o, τ, h1⟩ := fldAt_some' l i (by simpa using h)
    exact ⟨σ.n + o, τ, by simp [fldAt, h1]⟩

theorem Sg.st_pos' (σ : Sg) (fs : List Sg) (h : σ.inf = .st fs) : ∀ τ ∈ fs, 0 < τ.n := by
  cases σ <;> simp only [Sg.inf, Inf.st.injEq, reduceCtorEq] at h <;> subst h <;> decide

theorem fill_sound {ρ : Rho} {ks : List CK} {pl : Nat → Option (Nat × Sg)} {place : Nat → Option (Nat × Nat)}
    (hpl : ∀ i o τ, pl i = some (o, τ) → place i = some (o, τ.n) ∧ o + τ.n ≤ ks.length ∧ τ.pure = true ∧ 0 < τ.n ∧ ∀ j, j < τ.n → ks[o + j]? = τ.flat[j]?) :
    ∀ (l : List (Nat × AV)) (vs : List (Nat × Value)) (xs xs' : List Int), l.length = vs.length → (∀ (j i : Nat) (r : AV), l[j]? = some (i, r) → ∃ v, vs[j]? = some (i, v) ∧ Den ρ r v) →
      xs.length = ks.length → cellsOk ks xs → fillAV pl xs l = some xs' →
      Instr.fill place (cellsV ks xs).toArray vs = some (cellsV ks xs').toArray ∧ xs'.length = ks.length ∧ cellsOk ks xs'
  | [], vs, xs, xs', hl, _, hx, hok, h => by
    cases h
    obtain rfl : vs = [] := by cases vs; rfl; simp at hl
    exact ⟨rfl, hx, hok⟩
  | (i, r) :: l, [], xs, xs', hl, _, _, _, _ => by simp at hl
  | (i, r) :: l, (i', v) :: vs, xs, xs', hl, hd, hx, hok, h => by
    obtain ⟨v', e, hv⟩ := hd 0 i r rfl
    simp only [List.getElem?_cons_zero, Option.some.injEq, Prod.mk.injEq] at e
    obtain ⟨rfl, rfl⟩ := e
    have rest : ∀ (xs2 : List Int) (o : Nat) (τ : Sg) (ys : List Int), pl i' = some (o, τ) → v.cells = (cellsV τ.flat ys).toArray → ys.length = τ.n → cellsOk τ.flat ys → xs2 = putSeg xs o τ.n ys → fillAV pl xs2 l = some xs' →
        Instr.fill place (cellsV ks xs).toArray ((i', v) :: vs) = some (cellsV ks xs').toArray ∧ xs'.length = ks.length ∧ cellsOk ks xs' := by
      intro xs2 o τ ys hpa hvc hyl hyo hxs h2
      obtain ⟨p1, p2, p3, p4, p5⟩ := hpl i' o τ hpa
      have hτ := Sg.flat_len τ p3
      obtain ⟨s1, s2, s3⟩ := seg_cells (ks := ks) (ls := τ.flat) (xs := xs) (ys := ys) (o := o) (n := τ.n) hx hyl hτ p2 p5 hok hyo
      have hcl := cellsV_len τ.flat ys (by omega)
      have hcl2 := cellsV_len ks xs hx.symm
      simp only [Instr.fill, p1, hvc, List.size_toArray, hcl, hcl2, hyl]
      rw [if_neg (by simp; omega)]
      rw [s1, ← hxs]
      exact fill_sound hpl l vs xs2 xs' (by simpa using hl) (fun j i r hj => by simpa using hd (j + 1) i r (by simpa using hj)) (by rw [hxs]; exact s2) (by rw [hxs]; exact s3) h2
    simp only [fillAV] at h
    split at h
    · rename_i o τ hpa
      obtain ⟨p1, p2, p3, p4, p5⟩ := hpl i' o τ hpa
      split at h
      · rename_i k hk
        obtain ⟨f1, f2, f3⟩ := Sg.cell_flat τ k hk
        split at h
        · rename_i n hn
          obtain ⟨rfl, hkn⟩ := toCell_den hn hv
          refine rest _ o τ [n] hpa ?_ (by rw [f2]; rfl) (by rw [f1]; exact ⟨hkn, trivial⟩) (by rw [f2]; exact set_putSeg xs o n (by omega)) h
          rw [f1]
          cases k <;> rfl
        · cases h
      · split at h
        · split at h
          · rename_i τ' ys e
            subst e
            obtain ⟨rfl, h3, h4, -⟩ := hv
            exact rest _ o τ' ys hpa rfl h3 h4 rfl h
          · cases h
        · cases h
    · cases h

theorem rep_len {α : Type} (l : List α) : ∀ n, (rep n l).length = n * l.length
  | 0 => by simp [rep]
  | n + 1 => by simp only [rep, List.length_append, rep_len l n, Nat.succ_mul]; omega

/-- A row of elements, built. -/
theorem run_buildSlice (H : TabOk P Γ) {ρ : Rho} {w : World} {t e : TypeId} {len : Nat} {l : List (Nat × AV)} {parts : Array (Nat × Value)} {xs : List Int} (hs : Γ.sl t = some e) (hp : (Γ.sg e).pure = true) (hn : Γ.sg e ≠ .none)
    (hb : len * (Γ.sg e).n ≤ 16777216) (hl : l.length = parts.size) (hd : ∀ (j i : Nat) (r : AV), l[j]? = some (i, r) → ∃ v, parts.toList[j]? = some (i, v) ∧ Den ρ r v)
    (h : fillAV (slotAt (Γ.sg e) len) (List.replicate (len * (Γ.sg e).n) 0) l = some xs) :
    (Instr.buildSlice t len parts).run P w = .ok (.slice (some ⟨w.heap.size, 0, none⟩) len len) { w with heap := w.heap.push (.cells (cellsV (rep len (Γ.sg e).flat) xs).toArray e) } ∧
      xs.length = len * (Γ.sg e).n ∧ cellsOk (rep len (Γ.sg e).flat) xs := by
  have hu := H.sl t e hs
  have hfl := Sg.flat_len _ hp
  have hrl := rep_len (Γ.sg e).flat len
  rw [hfl] at hrl
  have hpos : 0 < (Γ.sg e).n := by
    revert hn hp
    generalize Γ.sg e = σ
    cases σ <;> simp [Sg.n, Sg.pure]
  obtain ⟨ti, z, hi, hsz, hz, hzo⟩ := H.parts rfl hn
  have hplace : ∀ i o τ, slotAt (Γ.sg e) len i = some (o, τ) → (fun i => some (i * (Γ.sg e).n, (Γ.sg e).n)) i = some (o, τ.n) ∧ o + τ.n ≤ (rep len (Γ.sg e).flat).length ∧ τ.pure = true ∧ 0 < τ.n ∧ ∀ j, j < τ.n → (rep len (Γ.sg e).flat)[o + j]? = τ.flat[j]? := by
    intro i o τ hs
    unfold slotAt at hs
    split at hs
    · rename_i hlt
      cases hs
      refine ⟨rfl, ?_, hp, hpos, fun j hj => ?_⟩
      · rw [hrl, ← Nat.succ_mul]; exact Nat.mul_le_mul_right _ hlt
      · have := rep_get (Γ.sg e).flat len i j hlt (by omega)
        rw [hfl] at this
        exact this
    · cases hs
  obtain ⟨k1, k2, k3⟩ := fill_sound (ρ := ρ) hplace l parts.toList _ xs (by simpa using hl) hd (by simp [hrl]) (zeros_ok _ _) h
  refine ⟨?_, by rw [k2, hrl], k3⟩
  have hzc := zero_cells hp hzo
  have hzl : z.cells.size = (Γ.sg e).n := by rw [hzc]; simp [cellsV_len _ _ (by simp [hfl] : (Γ.sg e).flat.length = (List.replicate (Γ.sg e).n (0:Int)).length)]
  have hzero : ((Array.range (len * (Γ.sg e).n)).map fun x => z.cells[x % z.cells.size]!) = (cellsV (rep len (Γ.sg e).flat) (List.replicate (len * (Γ.sg e).n) 0)).toArray := by
    apply Array.ext_getElem?
    intro j
    rw [Array.getElem?_map, Array.getElem?_range, List.getElem?_toArray]
    by_cases hj : j < len * (Γ.sg e).n
    · rw [if_pos hj]
      have hdiv : j / (Γ.sg e).n < len := by rw [Nat.div_lt_iff_lt_mul hpos]; exact hj
      have hmod := Nat.mod_lt j hpos
      have hsum : j / (Γ.sg e).n * (Γ.sg e).n + j % (Γ.sg e).n = j := by rw [Nat.mul_comm]; exact Nat.div_add_mod j (Γ.sg e).n
      have hr := rep_get (Γ.sg e).flat len (j / (Γ.sg e).n) (j % (Γ.sg e).n) hdiv (by omega)
      rw [hfl, hsum] at hr
      have hk : (Γ.sg e).flat[j % (Γ.sg e).n]? = some ((Γ.sg e).flat[j % (Γ.sg e).n]'(by omega)) := List.getElem?_eq_getElem _
      rw [hk] at hr
      rw [cellsV_get _ _ j 0 _ (by rw [List.getElem?_replicate, if_pos hj]) hr]
      have h2 := cellsV_get (Γ.sg e).flat (List.replicate (Γ.sg e).n 0) (j % (Γ.sg e).n) 0 _ (by rw [List.getElem?_replicate, if_pos hmod]) hk
      simp only [Option.map_some, hzl]
      rw [hzc, Array.getElem!_eq_getD, Array.getD_eq_getD_getElem?, List.getElem?_toArray, h2]
      rfl
    · rw [if_neg hj, List.getElem?_eq_none (by rw [cellsV_len _ _ (by simp [hrl])]; simp; omega)]
      rfl
  have hlt : ¬ len * (Γ.sg e).n > 2 ^ 24 := by omega
  simp only [Instr.buildSlice, Sem.run_bind, run_underlying hu, Result.andThen_ok, run_so hi hsz, if_neg hlt]
  by_cases h0 : len * (Γ.sg e).n = 0
  · have hz2 : ((Array.range (len * (Γ.sg e).n)).map fun x => (#[] : Array Value)[x % (#[] : Array Value).size]!) = (cellsV (rep len (Γ.sg e).flat) (List.replicate (len * (Γ.sg e).n) 0)).toArray := by
      rw [← hzero, h0]; simp
    rw [if_pos h0, pure_bind, hz2, k1]
    simp [newRow]
  · rw [if_neg h0, Sem.run_bind]
    have hzv : (zeroValue e).run P w = .ok z w := by simp [zeroValue, run_ti hi, hz]
    rw [hzv, Result.andThen_ok, pure_bind, hzero, k1]
    simp [newRow]

theorem part_place (H : TabOk P Γ) {t : TypeId} {σ : Sg} (ht : Γ.sg t = σ) (hn : σ ≠ .none) (hi : (match σ.inf with | .st _ => true | .arr _ _ => true | _ => false) = true) :
    σ.pure = true ∧ ∀ (w : World) (parts : Array (Nat × Value)) (xs' : List Int) (L : Prop), (∀ place : Nat → Option (Nat × Nat), (∀ i o τ, partAt σ i = some (o, τ) → place i = some (o, τ.n) ∧ o + τ.n ≤ σ.flat.length ∧ τ.pure = true ∧ 0 < τ.n ∧ ∀ j, j < τ.n → σ.flat[o + j]? = τ.flat[j]?) →
      Instr.fill place (cellsV σ.flat (List.replicate σ.n 0)).toArray parts.toList = some (cellsV σ.flat xs').toArray ∧ L) →
      (Instr.build t parts).run P w = .ok (.agg (cellsV σ.flat xs').toArray) w ∧ L := by
  obtain ⟨it, z, hit, hsz, hz, hzo⟩ := H.parts ht hn
  cases hc : σ.inf with
  | st fs =>
    have hp : σ.pure = true := by cases σ <;> first | rfl | cases hc
    refine ⟨hp, fun w parts xs' L hf => ?_⟩
    obtain ⟨gs, hu, hgs, -, -⟩ := H.st ht hn hc
    obtain ⟨f1, f2, f3⟩ := Sg.st_flat σ fs hc
    have hlen : gs.size = fs.length := by
      unfold fldsOk at hgs
      simp only [Bool.and_eq_true, beq_iff_eq] at hgs
      exact hgs.1
    have hall : ∀ (l : List Field), (∀ g ∈ l, ∃ i, P.info? g.type = some i) → ∃ places, l.mapM (fun f => (P.info? f.type).map fun i => (f.offset, i.size)) = some places ∧ places.length = l.length ∧
        ∀ (j : Nat) (g : Field), l[j]? = some g → ∃ i, P.info? g.type = some i ∧ places[j]? = some (g.offset, i.size) := by
      intro l
      induction l with
      | nil => intro _; exact ⟨[], rfl, rfl, fun j g h => by simp at h⟩
      | cons g l ih =>
        intro h
        obtain ⟨i, hi⟩ := h g List.mem_cons_self
        obtain ⟨ps, h1, h2, h3⟩ := ih fun g hg => h g (List.mem_cons_of_mem _ hg)
        refine ⟨(g.offset, i.size) :: ps, by simp [List.mapM_cons, hi, h1], by simp [h2], fun j g' hj => ?_⟩
        cases j with
        | zero => simp at hj; subst hj; exact ⟨i, hi, rfl⟩
        | succ j => simpa using h3 j g' (by simpa using hj)
    have hfld : ∀ (j : Nat) (g : Field), gs[j]? = some g → ∃ o τ, fldAt fs j = some (o, τ) ∧ g.offset = o ∧ ∃ i, P.info? g.type = some i ∧ i.size = τ.n := by
      intro j g hg
      have hjl : j < fs.length := by have := (Array.getElem?_eq_some_iff.1 hg).1; omega
      obtain ⟨o, τ, hfl⟩ := fldAt_some' fs j hjl
      obtain ⟨g', hg', ho, hτ, -⟩ := fldsOk_at hgs hfl
      rw [hg] at hg'
      cases hg'
      obtain ⟨i, z', hi, hsz', -, -⟩ := H.parts hτ (by
        have := Sg.st_pos' σ fs hc τ (fldAt_mem' hfl)
        rintro rfl; cases this)
      exact ⟨o, τ, hfl, ho, i, hi, hsz'⟩
    obtain ⟨places, h1, h2, h3⟩ := hall gs.toList fun g hg => by
      obtain ⟨j, hj, e⟩ := List.getElem_of_mem hg
      obtain ⟨o, τ, -, -, i, hi, -⟩ := hfld j g (by rw [← e]; simp)
      exact ⟨i, hi⟩
    obtain ⟨k1, k2⟩ := hf (places.toArray[·]?) (by
      intro i o τ hpa
      simp only [partAt, hc] at hpa
      obtain ⟨g, hg, ho, hτ, -⟩ := fldsOk_at hgs hpa
      obtain ⟨o', τ', hfl, ho', i', hi', hs'⟩ := hfld i g hg
      rw [hpa] at hfl
      cases hfl
      obtain ⟨i2, hi2, hpl⟩ := h3 i g (by simpa using hg)
      rw [hi'] at hi2
      cases hi2
      have h4 := flats_fld fs i o τ f3 hpa
      refine ⟨by simp [hpl, ho, hs'], by rw [Sg.flat_len σ hp, f2]; exact h4.1, f3 τ (fldAt_mem' hpa), Sg.st_pos' σ fs hc τ (fldAt_mem' hpa), fun j hj => by rw [f1]; exact h4.2 j hj⟩)
    refine ⟨run_build w t parts _ ?_, k2⟩
    simp only [Program.built, hit, hu, hz, h1]
    rw [zero_cells hp hzo]
    exact k1
  | arr n e =>
    have hp : σ.pure = true := by cases σ <;> first | rfl | cases hc
    refine ⟨hp, fun w parts xs' L hf => ?_⟩
    obtain ⟨t', hu, ht', -⟩ := H.arr ht hc
    obtain ⟨f1, f2, f3, f4⟩ := Sg.arr_flat σ e n hc
    obtain ⟨ie, z', hie, hse, -, -⟩ := H.parts ht' (by rintro rfl; cases f4)
    obtain ⟨k1, k2⟩ := hf (fun i => some (i * ie.size, ie.size)) (by
      intro i o τ hpa
      simp only [partAt, hc] at hpa
      split at hpa
      · rename_i hlt
        cases hpa
        have hle : i * e.n + e.n ≤ σ.n := by rw [f2, ← Nat.succ_mul]; exact Nat.mul_le_mul_right _ hlt
        refine ⟨by rw [hse], by rw [Sg.flat_len σ hp]; exact hle, f3, f4, fun j hj => ?_⟩
        have hel := Sg.flat_len e f3
        have hr := rep_get e.flat n i j hlt (by omega)
        rw [hel] at hr
        rw [f1]; exact hr
      · cases hpa)
    refine ⟨run_build w t parts _ ?_, k2⟩
    simp only [Program.built, hit, hu, hz, hie]
    rw [zero_cells hp hzo]
    exact k1
  | _ => rw [hc] at hi; cases hi

theorem caps_sound {ρ : Rho} {n : Nat} {E : Operand → AV} {ev : Operand → Value} (hE : ∀ x, Den ρ (E x) (ev x)) (hI : ∀ x, ∀ i ∈ (E x).ids, i < n) : ∀ {l : List Operand} {cs : List (Nat × Sg)}, capsAV (l.map E) = some cs →
    l.map ev = cs.map (fun c => Value.pointer (some ⟨(ρ c.1).blk, 0, none⟩)) ∧ (∀ c ∈ cs, PtrOk (ρ c.1) 0 c.2 ∧ (ρ c.1).size = c.2.n) ∧ ∀ i ∈ cs.map (·.1), i < n
  | [], cs, h => by cases h; exact ⟨rfl, fun c hc => (by cases hc), fun i hi => (by cases hi)⟩
  | x :: l, cs, h => by
    simp only [List.map_cons] at h
    have hx := hE x
    have hxi := hI x
    revert h
    generalize hex : E x = y at hx hxi
    intro h
    cases y <;> simp only [capsAV, reduceCtorEq] at h
    rename_i id σ
    split at h
    · rename_i cs' h'
      cases h
      obtain ⟨h1, h2, h3⟩ := caps_sound hE hI h'
      obtain ⟨e, hp⟩ := hx
      refine ⟨by simp [e, h1], fun c hc => ?_, fun i hi => ?_⟩
      · rcases List.mem_cons.1 hc with rfl | hc
        · exact hp
        · exact h2 c hc
      · rcases List.mem_cons.1 hi with rfl | hi
        · exact hxi _ (by simp [AV.ids])
        · exact h3 i hi
    · cases h

end Go.Eng
