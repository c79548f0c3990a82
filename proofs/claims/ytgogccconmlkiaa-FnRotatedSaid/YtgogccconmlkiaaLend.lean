/- An own slice is lent to a function that only reads it. -/
import Derived.Test.YtgogccconmlkiaaLists
namespace Go.Proofs.Ytgogccconmlkiaa
open Go Go.Eng
set_option linter.unusedSimpArgs false
set_option linter.unusedVariables false
set_option maxRecDepth 100000
set_option maxHeartbeats 4000000

/-- Values that name nothing frozen. -/
def plainA : AV → Bool
  | .i _ _ => true
  | .ag _ _ => true
  | .ow _ _ _ _ => true
  | .nsl => true
  | .t2 x y => plainA x && plainA y
  | .t3 x y z => plainA x && plainA y && plainA z
  | _ => false
def plainB : Blk → Bool
  | .l _ _ => true
  | .c _ _ => true
  | _ => false

theorem plain_den {ρ ρ' : Rho} : ∀ {x : AV} {v : Value}, plainA x = true → (∀ i ∈ x.ids, ρ' i = ρ i) → Den ρ x v → Den ρ' x v
  | .i _ _, _, _, _, h => h
  | .ag _ _, _, _, _, h => h
  | .nsl, _, _, _, h => h
  | .ow id _ _ _, _, _, he, h => by simp only [Den] at *; rw [he id (by simp [AV.ids])]; exact h
  | .t2 x y, _, hp, he, h => by
    simp only [plainA, Bool.and_eq_true] at hp
    obtain ⟨u, v, e, h1, h2⟩ := h
    exact ⟨u, v, e, plain_den hp.1 (fun i hi => he i (by simp [AV.ids, hi])) h1, plain_den hp.2 (fun i hi => he i (by simp [AV.ids, hi])) h2⟩
  | .t3 x y z, _, hp, he, h => by
    simp only [plainA, Bool.and_eq_true] at hp
    obtain ⟨u, v, w, e, h1, h2, h3⟩ := h
    exact ⟨u, v, w, e, plain_den hp.1.1 (fun i hi => he i (by simp [AV.ids, hi])) h1, plain_den hp.1.2 (fun i hi => he i (by simp [AV.ids, hi])) h2, plain_den hp.2 (fun i hi => he i (by simp [AV.ids, hi])) h3⟩

theorem plain_brel {ρ ρ' : Rho} {l : Go.Eng.Loc} {o : Option Obj} {b : Blk} (hp : plainB b = true) (h : BRel ρ l o b) : BRel ρ' l o b := by
  cases b <;> first | exact h | cases hp
theorem plain_mapI {f : Nat → Nat} {b : Blk} (hp : plainB b = true) : b.mapI f = b := by
  cases b <;> first | rfl | cases hp

theorem lend6 {P : Program} {f : FuncId} {a b c d g r : AV} {σ : Sg} {rows : List (List Int)} {n : Nat} {e : TypeId} {N : List Blk} (hS : SpecOK P f [a, b, .fs σ rows, c, d, g] [] r N)
    (ha : a.ids = []) (hb : b.ids = []) (hc : c.ids = []) (hd : d.ids = []) (hg : g.ids = []) (hr : plainA r = true) (hN : ∀ x ∈ N, plainB x = true) :
    SpecOK P f [a, b, .ow 0 n σ e, c, d, g] [.l σ rows] (r.mapI (· + 1)) (.l σ rows :: N) := by
  intro ρ vals w hds hM hi
  match vals, hds with
  | [va, vb, v, vc, vd, vg], ⟨d1, d2, d3, d4, d5, d6, d7⟩ =>
    have hlive : liveAt [Blk.l σ rows] 0 := ⟨_, rfl, rfl⟩
    obtain ⟨ρ', hA, hloc, hden⟩ := After.freeze hM (id := 0) (c := .l σ rows) rfl d3
    have hblk := hM.blk_lt hlive
    have hM0 : MRel (ρ'.ren (· + 1)) [] w := by
      refine ⟨?_, ?_, ?_, ?_⟩
      · intro id b h; cases h
      · intro i j h; obtain ⟨b, h, -⟩ := h; cases h
      · intro id vs h; cases h
      · intro k o h
        refine ⟨(hA.rel.env k o h).1, ?_⟩
        intro i h; obtain ⟨b, h, -⟩ := h; cases h
    have conv : ∀ {x : AV} {u : Value}, x.ids = [] → Den ρ x u → Den (ρ'.ren (· + 1)) x u := fun hx h => Den.congr (ρ' := ρ'.ren (· + 1)) hA.fmono (fun id hid => by rw [hx] at hid; cases hid) h
    have hden' : Den (ρ'.ren (· + 1)) (.fs σ rows) v := hden
    refine (hS (ρ'.ren (· + 1)) [va, vb, v, vc, vd, vg] w ⟨conv ha d1, conv hb d2, hden', conv hc d4, conv hd d5, conv hg d6, d7⟩ hM0 ?_).mono ?_
    · intro x hx i hii
      simp only [List.mem_cons, List.not_mem_nil, or_false] at hx
      rcases hx with rfl | rfl | rfl | rfl | rfl | rfl
      · rw [ha] at hii; cases hii
      · rw [hb] at hii; cases hii
      · cases hii
      · rw [hc] at hii; cases hii
      · rw [hd] at hii; cases hii
      · rw [hg] at hii; cases hii
    · rintro ev w' ⟨u, ρ2, rfl, hu, hB, hids⟩
      have hle3 : ∀ k o, ρ.F k = some o → (fun k => if k = (ρ 0).blk then none else ρ2.F k) k = some o := fun k o hk => by
        show (if k = (ρ 0).blk then none else ρ2.F k) = some o
        rw [if_neg (fun e => (hM.env k o hk).2 0 ⟨_, rfl, rfl⟩ e.symm)]; exact hB.fmono k o (hA.fmono k o hk)
      let ρ3 : Rho := ⟨fun i => if i = 0 then ρ 0 else ρ2 (i - 1), fun k => if k = (ρ 0).blk then none else ρ2.F k, Glob.mono hle3 ρ.ok⟩
      have q0 : ρ3 0 = ρ 0 := rfl
      have q1 : ∀ i, ρ3 (i + 1) = ρ2 i := fun i => rfl
      have qF : ∀ k o, ρ3.F k = some o → k ≠ (ρ 0).blk ∧ ρ2.F k = some o := fun k o h => by
        change (if k = (ρ 0).blk then none else ρ2.F k) = some o at h
        split at h
        · cases h
        · exact ⟨by assumption, h⟩
      have hnl : ∀ i, ¬ liveAt ([] : List Blk) i := fun i h => by obtain ⟨b, h, -⟩ := h; cases h
      have lv : ∀ i, liveAt (Blk.l σ rows :: N) (i + 1) → liveAt N i := fun i h => h
      have hfr : ∀ i, liveAt N i → w.heap.size ≤ (ρ2 i).blk := fun i h => by
        rcases hB.fresh i (Nat.zero_le _) h with h | ⟨j, h, -⟩
        · exact h
        · cases h
      refine ⟨u, ρ3, rfl, ?_, ⟨?_, ⟨?_, ?_, ?_, ?_⟩, ?_, ?_, ?_, ?_, hB.os, hB.tape, hB.output, hB.size, ?_, ?_⟩, ?_⟩
      · rw [den_mapI]
        exact plain_den (ρ := ρ2) (ρ' := ρ3.ren (· + 1)) hr (fun i _ => rfl) hu
      · intro id h
        obtain rfl : id = 0 := by simp at h; omega
        exact q0
      · intro id b h
        cases id with
        | zero =>
          cases h
          have h1 := hM.blk 0 _ rfl
          rw [q0, hB.frame _ hblk (fun i h => absurd h (hnl i))]
          exact plain_brel rfl h1
        | succ id =>
          rw [q1]
          exact plain_brel (hN b (List.mem_of_getElem? h)) (hB.rel.blk id b h)
      · intro i j h1 h2 he
        cases i with
        | zero =>
          cases j with
          | zero => rfl
          | succ j =>
            rw [q0, q1] at he
            have := hfr j (lv j h2); omega
        | succ i =>
          cases j with
          | zero =>
            rw [q0, q1] at he
            have := hfr i (lv i h1); omega
          | succ j =>
            rw [q1, q1] at he
            rw [hB.rel.inj i j (lv i h1) (lv j h2) he]
      · intro id vs h
        cases id with
        | zero => cases h
        | succ id =>
          have := hN _ (List.mem_of_getElem? (show N[id]? = some (.r vs) from h))
          cases this
      · intro k o h
        obtain ⟨h1, h2⟩ := qF k o h
        obtain ⟨h3, h4⟩ := hB.rel.env k o h2
        refine ⟨h3, ?_⟩
        intro i hl
        cases i with
        | zero => rw [q0]; exact fun e => h1 e.symm
        | succ i => rw [q1]; exact h4 i (lv i hl)
      · simp
      · intro id h1 _
        obtain rfl : id = 0 := by simp at h1; omega
        exact hlive
      · intro id h1 h2
        cases id with
        | zero => simp at h1
        | succ id => rw [q1]; exact .inl (hfr id (lv id h2))
      · intro b h1 h2
        exact hB.frame b h1 (fun i h => absurd h (hnl i))
      · intro k o h
        have hne : k ≠ (ρ 0).blk := fun e => (hM.env k o h).2 0 hlive e.symm
        show (if k = (ρ 0).blk then none else ρ2.F k) = some o
        rw [if_neg hne]
        exact hB.fmono k o (hA.fmono k o h)
      · intro k o h
        obtain ⟨h1, h2⟩ := qF k o h
        rcases hB.fnew k o h2 with h3 | h3 | ⟨i, h3, -⟩
        · exact hA.fnew k o h3
        · exact .inr (.inl h3)
        · exact absurd h3 (hnl i)
      · intro i h
        rw [ids_mapI] at h
        obtain ⟨j, hj, rfl⟩ := List.mem_map.1 h
        have := hids j hj
        simp; omega
end Go.Proofs.Ytgogccconmlkiaa
