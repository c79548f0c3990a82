/- The engine, part 14: a region whose order is open, whatever order is drawn. No conditions. -/
import Derived.Test.YtfelemoefhbphaaEng13
namespace Go.Eng
open Go Go.RowKit
variable {P : Program} {Γ : Tab}

theorem wrt_some : ∀ (l : List Oper) (k j : Nat) (t : Tmp), wrt l k t = some j → k ≤ j ∧ ∃ o, l[j - k]? = some o ∧ o.dst = some t
  | [], _, _, _, h => by cases h
  | o :: l, k, j, t, h => by
    simp only [wrt] at h
    split at h
    · rename_i d hd
      split at h
      · rename_i e; subst e; cases h; exact ⟨Nat.le_refl _, o, by simp, hd⟩
      · obtain ⟨h1, o', h2, h3⟩ := wrt_some l (k + 1) j t h
        exact ⟨by omega, o', by rw [show j - k = j - (k + 1) + 1 from by omega]; simpa using h2, h3⟩
    · obtain ⟨h1, o', h2, h3⟩ := wrt_some l (k + 1) j t h
      exact ⟨by omega, o', by rw [show j - k = j - (k + 1) + 1 from by omega]; simpa using h2, h3⟩

theorem wrt_none : ∀ (l : List Oper) (k : Nat) (t : Tmp), wrt l k t = .none → ∀ o ∈ l, o.dst ≠ some t
  | [], _, _, _, o, ho => by cases ho
  | o' :: l, k, t, h, o, ho => by
    simp only [wrt] at h
    split at h
    · rename_i d hd
      split at h
      · cases h
      · rename_i e
        rcases List.mem_cons.1 ho with rfl | ho
        · rw [hd]; exact fun e' => e (Option.some.inj e')
        · exact wrt_none l (k + 1) t h o ho
    · rename_i hd
      rcases List.mem_cons.1 ho with rfl | ho
      · rw [hd]; simp
      · exact wrt_none l (k + 1) t h o ho

/-- Each slot is written once. -/
def once : List Oper → Bool
  | [] => true
  | o :: l => (match o.dst with
    | some d => l.all fun o' => match o'.dst with | some d' => decide (d' ≠ d) | .none => true
    | .none => true) && once l

theorem wrt_once : ∀ (l : List Oper) (k i : Nat) (o : Oper) (t : Tmp), once l = true → l[i]? = some o → o.dst = some t → wrt l k t = some (k + i)
  | [], _, _, _, _, _, h, _ => by simp at h
  | o' :: l, k, 0, o, t, _, h, hd => by
    simp only [List.getElem?_cons_zero, Option.some.injEq] at h
    subst h
    simp only [wrt, hd, if_true, Nat.add_zero]
  | o' :: l, k, i + 1, o, t, hu, h, hd => by
    simp only [List.getElem?_cons_succ] at h
    simp only [once, Bool.and_eq_true] at hu
    have ih := wrt_once l (k + 1) i o t hu.2 h hd
    simp only [wrt]
    cases hd' : o'.dst with
    | none => dsimp only; rw [ih, show k + 1 + i = k + (i + 1) from by omega]
    | some d =>
      have h1 := hu.1
      rw [hd'] at h1
      have h2 := List.all_eq_true.1 h1 o (List.mem_of_getElem? h)
      rw [hd] at h2
      simp only [decide_eq_true_eq] at h2
      dsimp only
      rw [if_neg (fun e => h2 e.symm), ih, show k + 1 + i = k + (i + 1) from by omega]

/-- What a slot holds once these have come up. -/
def cont (all : List Oper) (fr0 rs : List AV) (p : Nat → Bool) (t : Tmp) : AV :=
  match wrt all 0 t with
  | .none => fr0.getD t .any
  | some j => if p j = true then rs.getD j .any else fr0.getD t .any

structure J (all : Array Oper) (bs : List Nat) (fr0 rs : List AV) (n0 : Nat) (Mn : List Blk) (bn : List Nat) (ρ0 : Rho) (M0 : List Blk) (a0 : Act) (w0 : World) (listed : Array Bool) (a : Act) (w : World) (ρ : Rho) : Prop where
  size : a.tmps.size = fr0.length
  defs : a.defers = a0.defers
  den : ∀ t, Den ρ (cont all.toList fr0 rs (fun k => listed.getD k false) t) (a.tmps.getD t undef)
  clo : ∀ i, listed.getD i false = true → ∀ j, Nat.testBit (bs.getD i 0) j = true → listed.getD j false = true
  lsz : listed.size = all.size
  aft : After ρ0 M0 (maskF n0 bn (fun k => listed.getD k false) Mn 0) w0 w ρ


theorem After.step {ρ0 ρ ρ1 : Rho} {M0 Mn Mk news : List Blk} {bn : List Nat} {p p' q : Nat → Bool} {w0 w w' : World} {base i : Nat}
    (hcl0 : ∀ (id : Nat) (vs : List AV), M0[id]? = some (.r vs) → ∀ x ∈ vs, ∀ j ∈ x.ids, j < M0.length)
    (hM0 : ∀ id, id < M0.length → ∀ vs, Mn[id]? = some (.r vs) → M0[id]? = some (.r vs)) (hle : M0.length ≤ Mn.length)
    (hA : After ρ0 M0 (maskF M0.length bn p Mn 0) w0 w ρ) (hS : After ρ Mk (Mk ++ news) w w' ρ1)
    (hb0 : M0.length ≤ base) (hb1 : base + news.length ≤ Mn.length) (hkl : Mk.length = base)
    (hget : ∀ id, id < base → Mk[id]? = (Mn[id]?).map fun b => if id < M0.length then b else if q (bn.getD (id - M0.length) big) = true then b else .dead)
    (hnews : ∀ m, m < news.length → Mn[base + m]? = news[m]?)
    (hborn : ∀ m, bn.getD m big = i ↔ base ≤ M0.length + m ∧ M0.length + m < base + news.length)
    (hqp : ∀ j, q j = true → p j = true) (hp' : ∀ j, p' j = true ↔ (p j = true ∨ j = i))
    (hrf : ∀ id vs, M0.length ≤ id → p (bn.getD (id - M0.length) big) = true → Mn[id]? = some (.r vs) → ∀ x ∈ vs, ∀ j ∈ x.ids, j < M0.length ∨ bn.getD (j - M0.length) big ≠ i)
    (hrn : ∀ m vs, m < news.length → Mn[base + m]? = some (.r vs) → ∀ x ∈ vs, ∀ j ∈ x.ids, j < base + news.length) :
    After ρ0 M0 (maskF M0.length bn p' Mn 0) w0 w' ⟨fun id => if base ≤ id ∧ id < base + news.length then ρ1 id else ρ id, ρ1.F⟩ := by
  have hle1 : ρ1.le ⟨fun id => if base ≤ id ∧ id < base + news.length then ρ1 id else ρ id, ρ1.F⟩ := fun _ _ h => h
  have hle2 : ρ.le ⟨fun id => if base ≤ id ∧ id < base + news.length then ρ1 id else ρ id, ρ1.F⟩ := hS.fmono
  -- what stands at an id
  have g1 : ∀ id, (maskF M0.length bn p Mn 0)[id]? = (Mn[id]?).map fun b => if id < M0.length then b else if p (bn.getD (id - M0.length) big) = true then b else .dead := fun id => by rw [maskF_get, Nat.zero_add]; rfl
  have g2 : ∀ id, (maskF M0.length bn p' Mn 0)[id]? = (Mn[id]?).map fun b => if id < M0.length then b else if p' (bn.getD (id - M0.length) big) = true then b else .dead := fun id => by rw [maskF_get, Nat.zero_add]; rfl
  have own : ∀ id, M0.length ≤ id → (bn.getD (id - M0.length) big = i ↔ base ≤ id ∧ id < base + news.length) := fun id hid => by
    have := hborn (id - M0.length)
    rw [show M0.length + (id - M0.length) = id from by omega] at this
    exact this
  -- live here and ahead of it
  have lk : ∀ id, liveAt Mk id → id < base ∧ liveAt (maskF M0.length bn p Mn 0) id := by
    rintro id ⟨b, hb, hl⟩
    have hid : id < base := by have := (List.getElem?_eq_some_iff.1 hb).1; omega
    rw [hget id hid] at hb
    refine ⟨hid, b, ?_, hl⟩
    rw [g1]
    cases hm : Mn[id]? with
    | none => rw [hm] at hb; cases hb
    | some c =>
      rw [hm] at hb
      simp only [Option.map_some, Option.some.injEq] at hb ⊢
      by_cases h0 : id < M0.length
      · rw [if_pos h0] at hb ⊢; exact hb
      · rw [if_neg h0] at hb ⊢
        split at hb
        · rename_i hq; rw [if_pos (hqp _ hq)]; exact hb
        · subst hb; cases hl
  have l2 : ∀ id, liveAt (maskF M0.length bn p' Mn 0) id → (base ≤ id ∧ id < base + news.length ∧ liveAt (Mk ++ news) id) ∨ (¬ (base ≤ id ∧ id < base + news.length) ∧ liveAt (maskF M0.length bn p Mn 0) id) := by
    rintro id ⟨b, hb, hl⟩
    rw [g2] at hb
    by_cases ho : base ≤ id ∧ id < base + news.length
    · refine .inl ⟨ho.1, ho.2, b, ?_, hl⟩
      rw [List.getElem?_append_right (by omega), hkl, ← hnews (id - base) (by omega), show base + (id - base) = id from by omega]
      cases hm : Mn[id]? with
      | none => rw [hm] at hb; cases hb
      | some c =>
        rw [hm] at hb
        simp only [Option.map_some, Option.some.injEq] at hb
        rw [if_neg (by omega)] at hb
        split at hb
        · rw [hb]
        · subst hb; cases hl
    · refine .inr ⟨ho, b, ?_, hl⟩
      rw [g1]
      cases hm : Mn[id]? with
      | none => rw [hm] at hb; cases hb
      | some c =>
        rw [hm] at hb
        simp only [Option.map_some, Option.some.injEq] at hb ⊢
        by_cases h0 : id < M0.length
        · rw [if_pos h0] at hb ⊢; exact hb
        · rw [if_neg h0] at hb ⊢
          split at hb
          · rename_i hq
            rcases (hp' _).1 hq with h | h
            · rw [if_pos h]; exact hb
            · exact absurd ((own id (by omega)).1 h) ho
          · subst hb; cases hl
  have hrho : ∀ id, id < base → ρ1 id = ρ id := fun id hid => hS.ext id (by omega)
  -- a new block lies behind all that was
  have hfresh : ∀ id, base ≤ id → liveAt (Mk ++ news) id → w.heap.size ≤ (ρ1 id).blk := by
    intro id hid hl
    rcases hS.fresh id (by omega) hl with h | ⟨j, hj, hjl, he⟩
    · exact h
    · exfalso
      have hjl' : liveAt (Mk ++ news) j := by
        obtain ⟨b, hb, hv⟩ := hjl
        exact ⟨b, by rw [List.getElem?_append_left hj]; exact hb, hv⟩
      have := hS.rel.inj id j hl hjl' (by rw [he, hS.ext j hj])
      omega
  -- those of ours that this step doesn't reach are as they were
  have hkeep : ∀ id, liveAt (maskF M0.length bn p Mn 0) id → ¬ liveAt Mk id → w'.heap[(ρ id).blk]? = w.heap[(ρ id).blk]? := by
    intro id hl hn
    refine hS.frame _ (hA.rel.blk_lt hl) (fun j hj he => ?_)
    have := hA.rel.inj j id (lk j hj).2 hl he
    exact hn (this ▸ hj)
  refine ⟨?_, ⟨?_, ?_, ?_, ?_⟩, by rw [maskF_len]; exact hle, ?_, ?_, ?_, hS.os.trans hA.os, hS.tape.trans hA.tape, hS.output.trans hA.output, Nat.le_trans hA.size hS.size, Rho.le_trans hA.fmono hS.fmono, ?_⟩
  · intro id hid
    dsimp only
    rw [if_neg (by omega)]
    exact hA.ext id hid
  · intro id b hb
    by_cases hl0 : b.live = false
    · cases b <;> first | trivial | cases hl0
    have hl : b.live = true := by simpa using hl0
    have hb' := hb
    rw [g2] at hb'
    rcases l2 id ⟨b, hb, hl⟩ with ⟨h1, h2, c, hc, hcl⟩ | ⟨ho, c, hc, hcl⟩
    · -- new here
      have hbc : b = c := by
        rw [List.getElem?_append_right (by omega), hkl, ← hnews (id - base) (by omega), show base + (id - base) = id from by omega] at hc
        rw [hc] at hb'
        simp only [Option.map_some, Option.some.injEq] at hb'
        rw [if_neg (by omega)] at hb'
        split at hb'
        · exact hb'.symm
        · subst hb'; cases hl
      subst hbc
      dsimp only
      rw [if_pos ⟨h1, h2⟩]
      refine (hS.rel.blk id b hc).congr hle1 ?_
      dsimp only
      rintro vs rfl x hx j hj
      by_cases hj1 : base ≤ j
      · have : j < base + news.length := by
          rw [List.getElem?_append_right (by omega), hkl, ← hnews (id - base) (by omega)] at hc
          exact hrn (id - base) vs (by omega) hc x hx j hj
        rw [if_pos ⟨hj1, this⟩]
      · rw [if_neg (by omega), hrho j (by omega)]
    · have hbc : b = c := by
        rw [g1] at hc
        cases hm : Mn[id]? with
        | none => rw [hm] at hc; cases hc
        | some d =>
          rw [hm] at hb' hc
          simp only [Option.map_some, Option.some.injEq] at hb' hc
          by_cases h0 : id < M0.length
          · rw [if_pos h0] at hb' hc; rw [← hb', ← hc]
          · rw [if_neg h0] at hb' hc
            split at hb'
            · split at hc
              · rw [← hb', ← hc]
              · subst hc; cases hcl
            · subst hb'; cases hl
      subst hbc
      dsimp only
      rw [if_neg ho]
      -- the ids that it names aren't new here
      have hnm : ∀ vs, b = .r vs → ∀ x ∈ vs, ∀ j ∈ x.ids, ¬ (base ≤ j ∧ j < base + news.length) := by
        rintro vs rfl x hx j hj hh
        have hmn : Mn[id]? = some (.r vs) ∧ (M0.length ≤ id → p (bn.getD (id - M0.length) big) = true) := by
          rw [g1] at hc
          cases hm : Mn[id]? with
          | none => rw [hm] at hc; cases hc
          | some d =>
            rw [hm] at hc
            simp only [Option.map_some, Option.some.injEq] at hc
            by_cases h0 : id < M0.length
            · rw [if_pos h0] at hc; rw [hc]; exact ⟨rfl, fun h => by omega⟩
            · rw [if_neg h0] at hc
              split at hc
              · rename_i hq; rw [hc]; exact ⟨rfl, fun _ => hq⟩
              · cases hc
        by_cases h0 : id < M0.length
        · have := hcl0 id vs (hM0 id h0 vs hmn.1) x hx j hj
          omega
        · rcases hrf id vs (by omega) (hmn.2 (by omega)) hmn.1 x hx j hj with h | h
          · omega
          · exact h ((own j (by omega)).2 hh)
      have hcg : ∀ vs, b = .r vs → ∀ x ∈ vs, ∀ j ∈ x.ids, (fun id => if base ≤ id ∧ id < base + news.length then ρ1 id else ρ id) j = ρ j := by
        intro vs e x hx j hj
        dsimp only
        rw [if_neg (hnm vs e x hx j hj)]
      by_cases hk : liveAt Mk id
      · obtain ⟨d, hd, hdl⟩ := hk
        have hid : id < base := by have := (List.getElem?_eq_some_iff.1 hd).1; omega
        have hdb : d = b := by
          rw [hget id hid] at hd
          rw [g1] at hc
          cases hm : Mn[id]? with
          | none => rw [hm] at hc; cases hc
          | some e =>
            rw [hm] at hc hd
            simp only [Option.map_some, Option.some.injEq] at hc hd
            by_cases h0 : id < M0.length
            · rw [if_pos h0] at hc hd; rw [← hc, ← hd]
            · rw [if_neg h0] at hc hd
              split at hd
              · split at hc
                · rw [← hc, ← hd]
                · subst hc; cases hcl
              · subst hd; cases hdl
        subst hdb
        have := hS.rel.blk id d (by rw [List.getElem?_append_left (by omega)]; exact hd)
        rw [hrho id hid] at this
        refine this.congr hle1 ?_
        intro vs e x hx j hj
        have h4 := hcg vs e x hx j hj
        dsimp only at h4
        show (if base ≤ j ∧ j < base + news.length then ρ1 j else ρ j) = _
        rw [h4]
        by_cases hj1 : j < base
        · exact (hrho j hj1).symm
        · exfalso
          have h3 := hS.rel.cl id vs (by rw [List.getElem?_append_left (by omega), hd, e]) x hx j hj
          rw [List.length_append, hkl] at h3
          exact hnm vs e x hx j hj ⟨by omega, h3⟩
      · rw [hkeep id ⟨b, hc, hcl⟩ hk]
        exact (hA.rel.blk id b hc).congr hle2 hcg
  · intro x y hx hy he
    dsimp only at he
    rcases l2 x hx with ⟨x1, x2, x3⟩ | ⟨xo, x3⟩
    · rw [if_pos ⟨x1, x2⟩] at he
      rcases l2 y hy with ⟨y1, y2, y3⟩ | ⟨yo, y3⟩
      · rw [if_pos ⟨y1, y2⟩] at he
        exact hS.rel.inj x y x3 y3 he
      · rw [if_neg yo] at he
        have := hfresh x x1 x3
        have := hA.rel.blk_lt y3
        omega
    · rw [if_neg xo] at he
      rcases l2 y hy with ⟨y1, y2, y3⟩ | ⟨yo, y3⟩
      · rw [if_pos ⟨y1, y2⟩] at he
        have := hfresh y y1 y3
        have := hA.rel.blk_lt x3
        omega
      · rw [if_neg yo] at he
        exact hA.rel.inj x y x3 y3 he
  · intro id vs hb x hx j hj
    rw [maskF_len]
    rcases l2 id ⟨_, hb, rfl⟩ with ⟨h1, h2, c, hc, hcl⟩ | ⟨ho, c, hc, hcl⟩
    · have hmn : Mn[base + (id - base)]? = some (.r vs) := by
        rw [show base + (id - base) = id from by omega]
        rw [g2] at hb
        cases hm : Mn[id]? with
        | none => rw [hm] at hb; cases hb
        | some d =>
          rw [hm] at hb
          simp only [Option.map_some, Option.some.injEq] at hb
          rw [if_neg (by omega)] at hb
          split at hb
          · rw [hb]
          · cases hb
      have := hrn (id - base) vs (by omega) hmn x hx j hj
      omega
    · have hbc : (maskF M0.length bn p Mn 0)[id]? = some (.r vs) := by
        rw [g2] at hb
        rw [g1] at hc ⊢
        cases hm : Mn[id]? with
        | none => rw [hm] at hc; cases hc
        | some d =>
          rw [hm] at hb hc
          simp only [Option.map_some, Option.some.injEq] at hb hc ⊢
          by_cases h0 : id < M0.length
          · rw [if_pos h0] at hb ⊢; exact hb
          · rw [if_neg h0] at hb hc ⊢
            split at hb
            · split at hc
              · rename_i hp2; rw [if_pos hp2]; exact hb
              · subst hc; cases hcl
            · cases hb
      have := hA.rel.cl id vs hbc x hx j hj
      rwa [maskF_len] at this
  · intro k o hk
    obtain ⟨g1, g3⟩ := hS.rel.env k o hk
    refine ⟨g1, fun id hl he => ?_⟩
    dsimp only at he
    rcases l2 id hl with ⟨h1, h2, h3⟩ | ⟨ho, h⟩
    · rw [if_pos ⟨h1, h2⟩] at he
      exact g3 id h3 he
    · rw [if_neg ho] at he
      have hlt := hA.rel.blk_lt h
      rcases hS.fnew k o hk with h4 | h4 | ⟨j, hj, hje⟩
      · exact (hA.rel.env k o h4).2 id h he
      · omega
      · have hij := hA.rel.inj id j h (lk j hj).2 (by rw [he, hje])
        subst hij
        obtain ⟨b, hb, hbl⟩ := hj
        have hjl : liveAt (Mk ++ news) id := ⟨b, by rw [List.getElem?_append_left (by have := (List.getElem?_eq_some_iff.1 hb).1; omega)]; exact hb, hbl⟩
        exact g3 id hjl (by rw [hS.ext id (by have := (List.getElem?_eq_some_iff.1 hb).1; omega)]; exact hje)
  · intro id hid hl
    rcases l2 id hl with ⟨h1, -, -⟩ | ⟨-, h⟩
    · omega
    · exact hA.dead id hid h
  · intro id hid hl
    dsimp only
    rcases l2 id hl with ⟨h1, h2, h3⟩ | ⟨ho, h⟩
    · rw [if_pos ⟨h1, h2⟩]
      exact .inl (Nat.le_trans hA.size (hfresh id h1 h3))
    · rw [if_neg ho]
      exact hA.fresh id hid h
  · intro b hb hn
    rw [hS.frame b (Nat.lt_of_lt_of_le hb hA.size) ?_]
    · exact hA.frame b hb hn
    · intro id hl he
      obtain ⟨h1, h2⟩ := lk id hl
      by_cases h0 : id < M0.length
      · rw [hA.ext id h0] at he
        exact hn id (hA.dead id h0 h2) he
      · rcases hA.fresh id (by omega) h2 with h | ⟨j, hj, hjl, he'⟩
        · omega
        · exact hn j hjl (by rw [← he']; exact he)
  · intro k o hk
    rcases hS.fnew k o hk with h1 | h1 | ⟨i, h1, h2⟩
    · exact hA.fnew k o h1
    · exact .inr (.inl (Nat.le_trans hA.size h1))
    · obtain ⟨h3, h4⟩ := lk i h1
      by_cases hlt : i < M0.length
      · rw [hA.ext i hlt] at h2
        exact .inr (.inr ⟨i, hA.dead i hlt h4, h2⟩)
      · rcases hA.fresh i (by omega) h4 with h5 | ⟨j, _, h5, h6⟩
        · exact .inr (.inl (h2 ▸ h5))
        · exact .inr (.inr ⟨j, h5, by rw [← h6, h2]⟩)

end Go.Eng
