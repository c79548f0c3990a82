/- The engine, part 9: one operation, and what it comes to. No conditions. -/
import Derived.Test.YtfelemoefhbphaaEng8c
namespace Go.Eng
open Go Go.RowKit
variable {P : Program} {Γ : Tab}

theorem evB_sound (H : TabOk P Γ) {ρ : Rho} {n : Nat} {E : Operand → AV} {ev : Operand → Value} {w : World} {ts : Array TypeId} {b : Builtin} {l : List Operand} {r : AV} {vs : List Prop}
    (hE : ∀ x, Den ρ (E x) (ev x)) (h : evB Γ ts b (l.map E) = some (r, vs)) (hv : allP vs) :
    ∃ z, Den ρ r z ∧ (∀ i ∈ r.ids, i < n) ∧ ∀ type consts, (builtin b ts type consts (l.map ev).toArray).run P w = .ok (.value z) w := by
  have none1 : ∀ t : TypeId, (Γ.sl t).isSome = true → ∃ e, P.underlying t = some (.slice e) := fun t ht => by
    obtain ⟨e, he⟩ := Option.isSome_iff_exists.1 ht
    exact ⟨e, H.sl t e he⟩
  have get0 : 0 < ts.size → ts[0]? = some (ts.getD 0 0) := fun h => by
    rw [Array.getElem?_eq_getElem h, Array.getD_eq_getD_getElem?, Array.getElem?_eq_getElem h]; rfl
  have one : ∀ x y : AV, l.map E = [x] → ∃ p, l = [p] ∧ Den ρ x (ev p) := by
    intro x _ hl
    match l, hl with
    | [p], hl => simp only [List.map_cons, List.map_nil, List.cons.injEq, and_true] at hl; exact ⟨p, rfl, hl ▸ hE p⟩
  have two : ∀ x y : AV, l.map E = [x, y] → ∃ p q, l = [p, q] ∧ Den ρ x (ev p) ∧ Den ρ y (ev q) := by
    intro x y hl
    match l, hl with
    | [p, q], hl =>
      simp only [List.map_cons, List.map_nil, List.cons.injEq, and_true] at hl
      exact ⟨p, q, rfl, hl.1 ▸ hE p, hl.2 ▸ hE q⟩
  unfold evB at h
  split at h
  · rename_i id off len σ hl
    obtain ⟨p, rfl, cap, hp, -⟩ := one _ .any hl
    split at h
    · rename_i hc
      cases h
      obtain ⟨e, hu⟩ := none1 _ hc.1
      have hg := get0 hc.2
      generalize ts.getD 0 0 = t0 at hg hu
      exact ⟨.int .i64 len, ⟨rfl, hv.1⟩, fun i hi => (by simp [AV.ids] at hi), fun type consts => (by
        simp [builtin, Builtin.len_, hg, run_underlying hu, hp, goInt])⟩
    · cases h
  · rename_i id len σ e0 hl
    obtain ⟨p, rfl, cap, hp, hle, hmx, -⟩ := one _ .any hl
    split at h
    · rename_i hc
      cases h
      obtain ⟨e, hu⟩ := none1 _ hc.1
      have hg := get0 hc.2
      generalize ts.getD 0 0 = t0 at hg hu
      exact ⟨.int .i64 len, ⟨rfl, (by simp only [rng, lo, hi, maxLen] at *; omega)⟩, fun i hi => (by simp [AV.ids] at hi), fun type consts => (by
        simp [builtin, Builtin.len_, hg, run_underlying hu, hp, goInt])⟩
    · cases h
  · rename_i σ rows hl
    obtain ⟨p, rfl, -, -, hmx, a, cap, hp, -⟩ := one _ .any hl
    split at h
    · rename_i hc
      cases h
      obtain ⟨e, hu⟩ := none1 _ hc.1
      have hg := get0 hc.2
      generalize ts.getD 0 0 = t0 at hg hu
      exact ⟨.int .i64 rows.length, ⟨rfl, (by simp only [rng, lo, hi, maxLen] at *; omega)⟩, fun i hi => (by simp [AV.ids] at hi), fun type consts => (by
        simp [builtin, Builtin.len_, hg, run_underlying hu, hp, goInt])⟩
    · cases h
  · rename_i σ rows hl
    obtain ⟨p, rfl, hmx, a, cap, hp, -⟩ := one _ .any hl
    split at h
    · rename_i hc
      cases h
      obtain ⟨e, hu⟩ := none1 _ hc.1
      have hg := get0 hc.2
      generalize ts.getD 0 0 = t0 at hg hu
      exact ⟨.int .i64 rows.length, ⟨rfl, (by simp only [rng, lo, hi, maxLen] at *; omega)⟩, fun i hi => (by simp [AV.ids] at hi), fun type consts => (by
        simp [builtin, Builtin.len_, hg, run_underlying hu, hp, goInt])⟩
    · cases h
  · rename_i rows hl
    obtain ⟨p, rfl, hmx, a, cap, hp, -⟩ := one _ .any hl
    split at h
    · rename_i hc
      cases h
      obtain ⟨e, hu⟩ := none1 _ hc.1
      have hg := get0 hc.2
      generalize ts.getD 0 0 = t0 at hg hu
      exact ⟨.int .i64 rows.length, ⟨rfl, (by simp only [rng, lo, hi, maxLen] at *; omega)⟩, fun i hi => (by simp [AV.ids] at hi), fun type consts => (by
        simp [builtin, Builtin.len_, hg, run_underlying hu, hp, goInt])⟩
    · cases h
  · rename_i hl
    obtain ⟨p, rfl, a, hp⟩ := one _ .any hl
    split at h
    · rename_i hc
      cases h
      obtain ⟨e, hu⟩ := none1 _ hc.1
      have hg := get0 hc.2
      generalize ts.getD 0 0 = t0 at hg hu
      exact ⟨.int .i64 0, ⟨rfl, (by simp [rng, lo, hi])⟩, fun i hi => (by simp [AV.ids] at hi), fun type consts => (by
        simp [builtin, Builtin.len_, hg, run_underlying hu, hp, goInt])⟩
    · cases h
  · rename_i x hl
    obtain ⟨p, rfl, hp, hmx⟩ := one _ .any hl
    split at h
    · rename_i hc
      cases h
      have hu := H.str hc.1
      have hg := get0 hc.2
      generalize ts.getD 0 0 = t0 at hg hu
      exact ⟨.int .i64 x.size, ⟨rfl, (by simp only [rng, lo, hi, maxLen] at *; omega)⟩, fun i hi => (by simp [AV.ids] at hi), fun type consts => (by
        simp [builtin, Builtin.len_, hg, run_underlying hu, hp, goInt])⟩
    · cases h
  · rename_i hl
    obtain ⟨p, rfl, hp⟩ := one _ .any hl
    split at h
    · rename_i hc
      cases h
      obtain ⟨e, hu⟩ := none1 _ hc.1
      have hg := get0 hc.2
      generalize ts.getD 0 0 = t0 at hg hu
      exact ⟨.int .i64 0, ⟨rfl, (by simp [rng, lo, hi])⟩, fun i hi => (by simp [AV.ids] at hi), fun type consts => (by
        simp only [Den] at hp
        simp [builtin, Builtin.len_, hg, run_underlying hu, hp, goInt])⟩
    · cases h
  · rename_i k m k' n' hl
    obtain ⟨p, q, rfl, ⟨hp, hp2⟩, ⟨hq, hq2⟩⟩ := two _ _ hl
    split at h
    · rename_i hc
      subst hc
      cases h
      refine ⟨.int k (mnI m n'), ⟨rfl, ?_⟩, fun i hi => (by simp [AV.ids] at hi), fun type consts => (by
        simp [builtin, Builtin.min_, Builtin.min2, hp, hq, mnI])⟩
      unfold mnI; split <;> assumption
    · cases h
  · rename_i k m k' n' hl
    obtain ⟨p, q, rfl, ⟨hp, hp2⟩, ⟨hq, hq2⟩⟩ := two _ _ hl
    split at h
    · rename_i hc
      subst hc
      cases h
      refine ⟨.int k (mxI m n'), ⟨rfl, ?_⟩, fun i hi => (by simp [AV.ids] at hi), fun type consts => (by
        simp [builtin, Builtin.max_, Builtin.max2, hp, hq, mxI])⟩
      unfold mxI; split <;> assumption
    · cases h
  · cases h

theorem evS_sound (H : TabOk P Γ) {ρ : Rho} {wr : Bool} {M : List Blk} {E : Operand → AV} {a : Act} {w : World} {o : Oper} {r : AV} {vs : List Prop}
    (hE : ∀ x, Den ρ (E x) (a.eval x)) (hI : ∀ x, ∀ i ∈ (E x).ids, i < M.length) (hM : MRel ρ M w) (h : evS Γ wr M E o.op = some (r, vs)) (hv : allP vs) :
    ∃ z, Den ρ r z ∧ (∀ i ∈ r.ids, i < M.length) ∧ (execOp a.eval o).run P w = .ok (.value z) w := by
  unfold execOp
  cases ho : o.op <;> rw [ho] at h <;> simp only [evS, reduceCtorEq] at h
  case move x => cases h; exact ⟨_, hE x, hI x, by simp⟩
  case assign x => cases h; exact ⟨_, hE x, hI x, by simp⟩
  case pick c x y =>
    have hc := hE c
    split at h
    · rename_i p e
      rw [e] at hc
      simp only [Den] at hc
      split at h
      · cases h; exact ⟨_, hE x, hI x, by simp [hc, asBool]⟩
      · cases h; exact ⟨_, hE y, hI y, by simp [hc, asBool]⟩
    · cases h
  case load t x =>
    have hx := hE x
    split at h
    · rename_i id off σ e
      rw [e] at hx
      obtain ⟨hx, hp⟩ := hx
      split at h
      · rename_i hc
        split at h
        · rename_i r' hl
          cases h
          obtain ⟨v, hd, hr⟩ := load_sound H hM hc.1 hc.2 hp hl
          exact ⟨v, hd, load_ids hM hl, by simp [hx, Instr.loadAt, Instr.sureAddr, hr]⟩
        · cases h
      · cases h
    · rename_i id σ e
      rw [e] at hx
      obtain ⟨hx, hp, hs⟩ := hx
      split at h
      · rename_i hc
        split at h
        · rename_i r' hl
          cases h
          have hl' := loadW_eq hM hs hl
          obtain ⟨v, hd, hr⟩ := load_sound H hM hc.1 hc.2 hp hl'
          exact ⟨v, hd, load_ids hM hl', by simp [hx, Instr.loadAt, Instr.sureAddr, hr]⟩
        · cases h
      · cases h
    · split at h
      · rename_i r' hl
        cases h
        obtain ⟨z, h1, h2, h3⟩ := rowLoad_sound H hM hx hl
        exact ⟨z, h1, by rw [h2]; simp, by simp [h3]⟩
      · cases h
  case nilCheck x =>
    have hx := hE x
    have hi := hI x
    split at h
    · rename_i id off σ e
      cases h
      rw [e] at hx hi
      obtain ⟨hx1, hx2⟩ := hx
      exact ⟨_, ⟨rfl, hx2⟩, hi, by simp [hx1]⟩
    · rename_i id σ e
      cases h
      rw [e] at hx hi
      obtain ⟨hx1, hx2⟩ := hx
      exact ⟨_, ⟨rfl, hx2⟩, hi, by simp [hx1]⟩
    · rename_i e
      cases h
      rw [e] at hx hi
      obtain ⟨hx1, hx2⟩ := hx
      exact ⟨_, ⟨rfl, hx2⟩, hi, by simp [hx1]⟩
    · rename_i e
      cases h
      rw [e] at hx hi
      obtain ⟨g1, g2, g3, g4, g5, k, b, C, ty, fz, hx1, hx2⟩ := hx
      exact ⟨_, ⟨g1, g2, g3, g4, g5, k, b, C, ty, fz, rfl, hx2⟩, hi, by simp [hx1]⟩
    · rename_i e
      cases h
      rw [e] at hx hi
      obtain ⟨k, b, C, ty, fz, y, hx1, hx2⟩ := hx
      exact ⟨_, ⟨k, b, C, ty, fz, y, rfl, hx2⟩, hi, by simp [hx1]⟩
    · rename_i e
      cases h
      rw [e] at hx hi
      obtain ⟨g1, k, b, C, ty, fz, hx1, hx2⟩ := hx
      exact ⟨_, ⟨g1, k, b, C, ty, fz, rfl, hx2⟩, hi, by simp [hx1]⟩
    · cases h
  case fieldAddr t x f =>
    split at h
    · rename_i r' hf
      cases h
      obtain ⟨z, h1, h2, h3⟩ := fldAV_sound H hf (hE x) w
      exact ⟨z, h1, fun i hi => hI x i (h2 i hi), by simp [h3]⟩
    · split at h
      · rename_i r' hf
        cases h
        obtain ⟨z, h1, h2, h3⟩ := rowFld_sound H hf (hE x) w
        exact ⟨z, h1, fun i hi => hI x i (h2 i hi), by simp [h3]⟩
      · cases h
  case indexAddr t x y =>
    split at h
    · rename_i r' hr
      cases h
      obtain ⟨z, h1, h2, h3⟩ := rowIdx_sound H hr hv (hE x) (hE y) w
      exact ⟨z, h1, fun i hi => hI x i (h2 i hi), by simp [h3]⟩
    obtain ⟨z, h1, h2, h3⟩ := idxAV_sound H h hv (hE x) (hE y) w
    exact ⟨z, h1, fun i hi => hI x i (h2 i hi), by simp [h3]⟩
  case binOp op t x y _ =>
    obtain ⟨z, h1, h2, h3, h4⟩ := evBin_sound H x y h hv (hE x) (hE y) w
    exact ⟨z, h1, by rw [h2]; simp, by simp [h3, h4]⟩
  case unOp op t x =>
    have hx := hE x
    split at h
    · rename_i p e
      cases h; rw [e] at hx; simp only [Den] at hx
      exact ⟨_, rfl, by simp [AV.ids], by simp [hx, Op.unary]⟩
    · rename_i p e
      rw [e] at hx; simp only [Den] at hx
      split at h
      · cases h; exact ⟨_, rfl, by simp [AV.ids], by simp [hx, Op.unary]⟩
      · cases h; exact ⟨_, rfl, by simp [AV.ids], by simp [hx, Op.unary]⟩
    · rename_i k n e
      rw [e] at hx
      exact ⟨_, (ar_sound h hv).1, by rw [(ar_sound (ρ := ρ) h hv).2]; simp, by simp [hx.1, Op.unary, Op.intArith]⟩
    · cases h
  case convert s t x =>
    have hx := hE x
    split at h
    · rename_i k0 n k1 k e hs ht
      rw [e] at hx
      have hus := H.cell rfl hs
      have hut := H.cell rfl ht
      refine ⟨_, (ar_sound h hv).1, by rw [(ar_sound (ρ := ρ) h hv).2]; simp, ?_⟩
      simp only [convert, Sem.run_bind, run_underlying hus, run_underlying hut, Result.andThen_ok, hx.1, Conv.intToInt, Sem.run_pure]
    · cases h
  case extract x i =>
    have hx := hE x
    have hi := hI x
    split at h <;> first | cases h | skip
    all_goals
      rename_i e
      rw [e] at hx hi
      simp only [AV.ids, List.mem_append] at hi
    · obtain ⟨u, v, hx, h1, h2⟩ := hx; exact ⟨_, h1, fun i h => hi i (by simp [h]), by simp [hx, Instr.extract]⟩
    · obtain ⟨u, v, hx, h1, h2⟩ := hx; exact ⟨_, h2, fun i h => hi i (by simp [h]), by simp [hx, Instr.extract]⟩
    · obtain ⟨u, v, z, hx, h1, h2, h3⟩ := hx; exact ⟨_, h1, fun i h => hi i (by simp [h]), by simp [hx, Instr.extract]⟩
    · obtain ⟨u, v, z, hx, h1, h2, h3⟩ := hx; exact ⟨_, h2, fun i h => hi i (by simp [h]), by simp [hx, Instr.extract]⟩
    · obtain ⟨u, v, z, hx, h1, h2, h3⟩ := hx; exact ⟨_, h3, fun i h => hi i (by simp [h]), by simp [hx, Instr.extract]⟩
    · obtain ⟨u, v, z, y, hx, h1, h2, h3, h4⟩ := hx; exact ⟨_, h1, fun i h => hi i (by simp [h]), by simp [hx, Instr.extract]⟩
    · obtain ⟨u, v, z, y, hx, h1, h2, h3, h4⟩ := hx; exact ⟨_, h2, fun i h => hi i (by simp [h]), by simp [hx, Instr.extract]⟩
    · obtain ⟨u, v, z, y, hx, h1, h2, h3, h4⟩ := hx; exact ⟨_, h3, fun i h => hi i (by simp [h]), by simp [hx, Instr.extract]⟩
    · obtain ⟨u, v, z, y, hx, h1, h2, h3, h4⟩ := hx; exact ⟨_, h4, fun i h => hi i (by simp [h]), by simp [hx, Instr.extract]⟩
  case build t ps =>
    rw [fSg'_eq] at h
    split at h
    · rename_i hc
      split at h
      · rename_i xs hf
        have h' : (some (AV.ag (Γ.sg t) xs, []) : Option (AV × List Prop)) = some (r, vs) := by
          split at h
          · rename_i e; rw [fI_eq] at h; rw [e]; exact h
          · exact h
        clear h
        cases h'
        obtain ⟨hp, hrun⟩ := part_place H rfl hc.1 hc.2
        obtain ⟨h1, h2, h3⟩ := hrun w (ps.map fun p => (p.1, a.eval p.2)) xs (xs.length = (Γ.sg t).flat.length ∧ cellsOk (Γ.sg t).flat xs) (fun place hpl =>
          fill_sound (ρ := ρ) hpl _ _ _ _ (by simp) (fun j i r hj => by
            rw [List.getElem?_map] at hj
            rw [Array.toList_map, List.getElem?_map]
            cases hq : ps.toList[j]? with
            | none => rw [hq] at hj; cases hj
            | some q =>
              rw [hq] at hj
              simp only [Option.map_some, Option.some.injEq, Prod.mk.injEq] at hj
              obtain ⟨rfl, rfl⟩ := hj
              exact ⟨_, rfl, hE _⟩) (by simp [Sg.flat_len _ hp]) (zeros_ok _ _) hf)
        exact ⟨_, ⟨rfl, by rw [h2, Sg.flat_len _ hp], h3, hp⟩, fun i hi => (by simp [AV.ids] at hi), by simp [h1]⟩
      · cases h
    · cases h
  case makeFunc f first caps =>
    split at h
    · split at h
      · rename_i hf0
        split at h
        · rename_i cs hcs
          cases h
          obtain ⟨h1, h2, h3⟩ := caps_sound hE hI hcs
          refine ⟨_, ⟨rfl, h2⟩, h3, ?_⟩
          have e1 : first = #[] := Array.eq_empty_of_size_eq_zero hf0
          have e2 : caps.map a.eval = (cs.map fun c => Value.pointer (some ⟨(ρ c.1).blk, 0, none⟩)).toArray := by
            rw [← h1]; apply Array.toList_inj.1; simp
          simp [Instr.makeFunc, e1, e2]
        · cases h
      · cases h
    · cases h
  case slice t x lo hi mx =>
    have key : ∀ id off σ, Γ.sg t = σ → slAll M id off σ = some (r, vs) → PtrOk (ρ id) off σ → a.eval x = .pointer (some ⟨(ρ id).blk, off, none⟩) → id < M.length → ∃ z, Den ρ r z ∧ (∀ i ∈ r.ids, i < M.length) ∧ (Instr.sliceAt t (a.eval x) none none none).run P w = .ok z w := by
      intro id off σ ht h hp hx hid
      unfold slAll at h
      split at h
      · rename_i n e hinf
        split at h
        · rename_i τ xs hb
          cases h
          obtain ⟨t', hu, ht', -⟩ := H.arr ht hinf
          obtain ⟨f1, f2, f3, f4⟩ := Sg.arr_flat σ e n hinf
          obtain ⟨ti, z, hi, hsz, -, -⟩ := H.parts ht' (by rintro rfl; cases f4)
          obtain ⟨C, -, -, -, -, -, -, hroom, -⟩ := hM.blk id _ hb
          refine ⟨.slice (some ⟨(ρ id).blk, off, none⟩) n n, ⟨n, rfl, Nat.le_refl _, f4, fun i hlt => ptr_idx hp hinf hlt, ?_, ?_⟩, fun i hi => (by simp [AV.ids] at hi; omega), ?_⟩
          · have := hp.1; rw [f2] at this; exact this
          · have := hp.1; rw [f2] at this; omega
          · by_cases hn0 : n = 0
            · simp [Instr.sliceAt, run_underlying hu, hx, Instr.sureAddr, Instr.sliceBounds, run_so hi hsz, hn0]
            · simp [Instr.sliceAt, run_underlying hu, hx, Instr.sureAddr, Instr.sliceBounds, run_so hi hsz, Addr.add]
        · cases h
      · cases h
    split at h
    · have hx := hE x
      have hxi := hI x
      split at h
      · rename_i id σ e
        rw [e] at hx hxi
        obtain ⟨hx, hp, -⟩ := hx
        split at h
        · rename_i hc
          obtain ⟨z, h1, h2, h3⟩ := key id 0 σ hc h hp hx (hxi id (by simp [AV.ids]))
          exact ⟨z, h1, h2, by simp [h3]⟩
        · cases h
      · rename_i id off σ e
        rw [e] at hx hxi
        obtain ⟨hx, hp⟩ := hx
        split at h
        · rename_i hc
          obtain ⟨z, h1, h2, h3⟩ := key id off σ hc h hp hx (hxi id (by simp [AV.ids]))
          exact ⟨z, h1, h2, by simp [h3]⟩
        · cases h
      · cases h
    · split at h
      · rename_i l' h' m' el eh em
        have bv : ∀ (o : Option Operand) (n : Option Int), bndAV E o = some n → BV n (o.map a.eval) := by
          intro o n ho
          cases o with
          | none => cases ho; trivial
          | some y =>
            simp only [bndAV] at ho
            split at ho
            · rename_i k n' e
              cases ho
              have := hE y
              rw [e] at this
              exact ⟨k, this⟩
            · cases ho
        obtain ⟨z, h1, h2, h3⟩ := sliceAV_sound H h hv (hE x) (bv _ _ el) (bv _ _ eh) (bv _ _ em) w
        exact ⟨z, h1, by rw [h2]; simp, by simp [h3]⟩
      · cases h
  case call c =>
    split at h
    · rename_i b hb
      obtain ⟨z, h1, h2, h3⟩ := evB_sound (n := M.length) H hE h hv (w := w)
      refine ⟨z, h1, h2, ?_⟩
      have e : (c.args.toList.map a.eval).toArray = c.args.map a.eval := by apply Array.toList_inj.1; simp
      simp only [e] at h3
      simp [resolve, hb, invoke]
      exact h3 _ _
    · cases h

end Go.Eng
