/- The engine, part 6d: parts of strings and of frozen rows. No conditions. -/
import Derived.Test.YtfelemoefhbphaaEng6c
namespace Go.Eng
open Go Go.RowKit
variable {P : Program} {Γ : Tab}

/-- A bound, as it stands. -/
def BV : Option Int → Option Value → Prop
  | .none, .none => True
  | some n, some v => ∃ k, v = .int k n ∧ rng k n
  | _, _ => False

def subL {α : Type} (l : List α) (lo hi : Option Int) : List α :=
  match lo, hi with
  | .none, .none => l
  | some a, .none => l.drop a.toNat
  | .none, some b => l.take b.toNat
  | some a, some b => (l.take b.toNat).drop a.toNat

def subP (n : Nat) (lo hi : Option Int) : List Prop :=
  match lo, hi with
  | .none, .none => []
  | some a, .none => [0 ≤ a ∧ a ≤ (n : Int)]
  | .none, some b => [0 ≤ b ∧ b ≤ (n : Int)]
  | some a, some b => [0 ≤ a ∧ a ≤ b ∧ b ≤ (n : Int)]

/-- A part of a string, of frozen rows. -/
def sliceAV (Γ : Tab) (t : TypeId) (x : AV) (lo hi mx : Option Int) : Option (AV × List Prop) :=
  match mx with
  | .none => match x with
    | .s s => if Γ.sg t = .str then (match lo, hi with
      | .none, .none => some (.s s, [])
      | some a, .none => some (.s (s.extract a.toNat s.size), subP s.size lo hi)
      | .none, some b => some (.s (s.extract 0 b.toNat), subP s.size lo hi)
      | some a, some b => some (.s (s.extract a.toNat b.toNat), subP s.size lo hi)) else .none
    | .fs σ rows => (match Γ.sl t with
      | some e => if Γ.sg e = σ ∧ σ ≠ .none then some (.fs σ (subL rows lo hi), subP rows.length lo hi) else .none
      | .none => .none)
    | .fstr l => (match Γ.sl t with
      | some e => if Γ.sg e = .str then some (.fstr (subL l lo hi), subP l.length lo hi) else .none
      | .none => .none)
    | _ => .none
  | some m => match lo, hi with
    | .none, some h => (match Γ.sl t with
      | some e => if Γ.sg e ≠ .none then (match x with
        | .fs _ _ => some (.es, [h = 0 ∧ m = 0])
        | .fstr _ => some (.es, [h = 0 ∧ m = 0])
        | .ow _ _ _ _ => some (.es, [h = 0 ∧ m = 0])
        | .nsl => some (.es, [h = 0 ∧ m = 0])
        | .es => some (.es, [h = 0 ∧ m = 0])
        | _ => .none) else .none
      | .none => .none)
    | _, _ => .none

def loN : Option Int → Nat
  | .none => 0
  | some a => a.toNat
def hiN (n : Nat) : Option Int → Nat
  | .none => n
  | some b => b.toNat

theorem sliceBounds_run {w : World} {b : Bool} {len cap : Nat} {lo hi : Option Int} {low high : Option Value} (hl : BV lo low) (hh : BV hi high) (hc : len ≤ cap) (hp : allP (subP len lo hi)) :
    (Instr.sliceBounds b len cap low high none).run P w = .ok (loN lo, hiN len hi, cap) w ∧
      loN lo ≤ hiN len hi ∧ hiN len hi ≤ len := by
  cases lo with
  | none =>
    cases low with
    | some v => cases hl
    | none =>
      cases hi with
      | none =>
        cases high with
        | some v => cases hh
        | none => simp [Instr.sliceBounds, loN, hiN]
      | some n =>
        cases high with
        | none => cases hh
        | some v =>
          obtain ⟨k, rfl, -⟩ := hh
          obtain ⟨⟨h1, h2⟩, -⟩ := hp
          refine ⟨?_, Nat.zero_le _, by simp only [loN, hiN]; omega⟩
          cases b
          · have : n ≤ (cap : Int) := by omega
            simp [Instr.sliceBounds, Instr.sliceBound, asIntOf, h1, this, loN, hiN]
          · have : n ≤ (cap : Int) := by omega
            simp [Instr.sliceBounds, Instr.sliceBound, asIntOf, h1, this, loN, hiN]
  | some m =>
    cases low with
    | none => cases hl
    | some v =>
      obtain ⟨k, rfl, -⟩ := hl
      cases hi with
      | none =>
        cases high with
        | some v => cases hh
        | none =>
          obtain ⟨⟨h1, h2⟩, -⟩ := hp
          refine ⟨?_, by simp only [loN, hiN]; omega, Nat.le_refl _⟩
          simp [Instr.sliceBounds, Instr.sliceBound, asIntOf, h1, h2, loN, hiN]
      | some n =>
        cases high with
        | none => cases hh
        | some v =>
          obtain ⟨k', rfl, -⟩ := hh
          obtain ⟨⟨h1, h2, h3⟩, -⟩ := hp
          refine ⟨?_, by simp only [loN, hiN]; omega, by simp only [loN, hiN]; omega⟩
          have h0 : 0 ≤ n := by omega
          have h5 : n ≤ (cap : Int) := by omega
          have h6 : m ≤ max n 0 := by omega
          cases b <;> simp [Instr.sliceBounds, Instr.sliceBound, asIntOf, h0, h5, h1, h6, loN, hiN]

theorem subL_spec {α : Type} (l : List α) {lo hi : Option Int} (hp : allP (subP l.length lo hi)) :
    (subL l lo hi).length = hiN l.length hi - loN lo ∧
    ∀ (j : Nat) (x : α), (subL l lo hi)[j]? = some x → l[loN lo + j]? = some x := by
  cases lo with
  | none =>
    cases hi with
    | none => exact ⟨rfl, fun j x h => by simpa [subL, loN] using h⟩
    | some b =>
      obtain ⟨⟨h1, h2⟩, -⟩ := hp
      refine ⟨by simp only [subL, List.length_take, loN, hiN]; omega, fun j x h => ?_⟩
      simp only [subL, List.getElem?_take] at h
      split at h
      · simpa [loN] using h
      · cases h
  | some a =>
    cases hi with
    | none =>
      refine ⟨by simp only [subL, List.length_drop, loN, hiN], fun j x h => ?_⟩
      simpa [subL, loN] using h
    | some b =>
      obtain ⟨⟨h1, h2, h3⟩, -⟩ := hp
      refine ⟨by simp only [subL, List.length_drop, List.length_take, loN, hiN]; omega, fun j x h => ?_⟩
      simp only [subL, List.getElem?_drop, List.getElem?_take] at h
      split at h
      · exact h
      · cases h

theorem sliceAV_sound (H : TabOk P Γ) {ρ : Rho} {t : TypeId} {x r : AV} {v : Value} {lo hi mx : Option Int} {low high max : Option Value} {vs : List Prop}
    (h : sliceAV Γ t x lo hi mx = some (r, vs)) (hv : allP vs) (hd : Den ρ x v) (hl : BV lo low) (hh : BV hi high) (hm : BV mx max) (w : World) :
    ∃ z, Den ρ r z ∧ r.ids = [] ∧ (Instr.sliceAt t v low high max).run P w = .ok z w := by
  unfold sliceAV at h
  cases mx with
  | none =>
    cases max with
    | some m => cases hm
    | none =>
      dsimp only at h
      split at h
      · rename_i s
        split at h
        · rename_i hc
          obtain ⟨rfl, hs⟩ := hd
          have hu := H.str hc
          have key : allP (subP s.size lo hi) → (Instr.sliceAt t (.string s) low high none).run P w = .ok (.string (s.extract (loN lo) (hiN s.size hi))) w := by
            intro hp
            have hb := sliceBounds_run (P := P) (w := w) (b := false) hl hh (Nat.le_refl s.size) hp
            simp only [Instr.sliceAt, Instr.slice, Sem.run_bind, run_underlying hu, Result.andThen_ok, Option.isSome_none, Bool.false_eq_true, if_false, Sem.run_pure, hb.1]
          have hsz : ∀ a b, (s.extract a b).size ≤ maxLen := by
            intro a b
            rw [ByteArray.size_extract]
            omega
          cases lo with
          | none =>
            cases hi with
            | none =>
              cases h
              refine ⟨_, ⟨rfl, hs⟩, rfl, ?_⟩
              have := key trivial
              simp only [loN, hiN, ByteArray.extract_zero_size] at this
              exact this
            | some b => cases h; exact ⟨_, ⟨rfl, hsz _ _⟩, rfl, key hv⟩
          | some a =>
            cases hi with
            | none => cases h; exact ⟨_, ⟨rfl, hsz _ _⟩, rfl, key hv⟩
            | some b => cases h; exact ⟨_, ⟨rfl, hsz _ _⟩, rfl, key hv⟩
        · cases h
      · rename_i σ rows
        split at h
        · rename_i e hsl
          split at h
          · rename_i hc
            cases h
            obtain ⟨h1, h2, h3, a, cap, rfl, h4, h5⟩ := hd
            have hu := H.sl t e hsl
            obtain ⟨ti, z, hinf, hsz, -, -⟩ := H.parts hc.1 hc.2
            obtain ⟨b1, b2, b3⟩ := sliceBounds_run (P := P) (w := w) (b := true) hl hh h4 hv
            obtain ⟨s1, s2⟩ := subL_spec rows hv
            generalize hL : loN lo = L at *
            generalize hH : hiN rows.length hi = Hh at *
            refine ⟨_, ⟨h1, h2, by omega, if cap = L then a else a.map (·.add (L * σ.n)), cap - L, by rw [s1], by omega, ?_⟩, rfl, ?_⟩
            · rcases h5 with rfl | ⟨k, o, C, ty, fz, rfl, g2, g3⟩
              · left
                exact List.eq_nil_of_length_eq_zero (by rw [s1]; simp at b3; omega)
              · by_cases hcl : cap = L
                · left
                  exact List.eq_nil_of_length_eq_zero (by rw [s1]; omega)
                · right
                  rw [if_neg hcl]
                  refine ⟨k, o + L * σ.n, C, ty, fz, by simp [add_addr], g2, fun i row hi => ?_⟩
                  have := g3 _ _ (s2 i row hi)
                  rw [Nat.add_mul, ← Nat.add_assoc] at this
                  exact this
            · simp only [Instr.sliceAt, Instr.slice, Sem.run_bind, run_underlying hu, Result.andThen_ok, b1, run_so hinf hsz, Sem.run_pure]
          · cases h
        · cases h
      · rename_i l
        split at h
        · rename_i e hsl
          split at h
          · rename_i hc
            cases h
            obtain ⟨h3, a, cap, rfl, h4, h5⟩ := hd
            have hu := H.sl t e hsl
            obtain ⟨ti, z, hinf, hsz, -, -⟩ := H.parts hc (by simp)
            obtain ⟨b1, b2, b3⟩ := sliceBounds_run (P := P) (w := w) (b := true) hl hh h4 hv
            obtain ⟨s1, s2⟩ := subL_spec l hv
            generalize hL : loN lo = L at *
            generalize hH : hiN l.length hi = Hh at *
            refine ⟨_, ⟨by omega, if cap = L then a else a.map (·.add (L * Sg.str.n)), cap - L, by rw [s1], by omega, ?_⟩, rfl, ?_⟩
            · rcases h5 with rfl | ⟨k, o, C, ty, fz, rfl, g2, g3⟩
              · left
                exact List.eq_nil_of_length_eq_zero (by rw [s1]; simp at b3; omega)
              · by_cases hcl : cap = L
                · left
                  exact List.eq_nil_of_length_eq_zero (by rw [s1]; omega)
                · right
                  rw [if_neg hcl]
                  refine ⟨k, o + L, C, ty, fz, by simp [add_addr, Sg.n], g2, fun i row hi => ?_⟩
                  have := g3 _ _ (s2 i row hi)
                  rw [← Nat.add_assoc] at this
                  exact this
            · simp only [Instr.sliceAt, Instr.slice, Sem.run_bind, run_underlying hu, Result.andThen_ok, b1, run_so hinf hsz, Sem.run_pure]
          · cases h
        · cases h
      · cases h
  | some m =>
    cases max with
    | none => cases hm
    | some mv =>
      obtain ⟨km, rfl, -⟩ := hm
      dsimp only at h
      cases lo with
      | some a => cases h
      | none =>
        cases low with
        | some lv => cases hl
        | none =>
          cases hi with
          | none => cases h
          | some hn =>
            cases high with
            | none => cases hh
            | some hv' =>
              obtain ⟨kh, rfl, -⟩ := hh
              dsimp only at h
              split at h
              · rename_i e hsl
                split at h
                · rename_i hn'
                  have hu := H.sl t e hsl
                  obtain ⟨ti, z, hinf, hsz, -, -⟩ := H.parts rfl hn'
                  have key : ∀ a n c, hn = 0 → m = 0 → ∃ z, Den ρ .es z ∧ (Instr.sliceAt t (.slice a n c) none (some (.int kh hn)) (some (.int km m))).run P w = .ok z w := by
                    rintro a n c rfl rfl
                    refine ⟨.slice a 0 0, ⟨a, rfl⟩, ?_⟩
                    simp [Instr.sliceAt, Instr.slice, run_underlying hu, Instr.sliceBounds, Instr.sliceBound, asIntOf, run_so hinf hsz]
                  split at h <;> first | cases h | skip
                  all_goals obtain ⟨⟨e1, e2⟩, -⟩ := hv
                  · obtain ⟨-, -, -, a, cap, rfl, -⟩ := hd
                    obtain ⟨z, hz, hr⟩ := key a _ cap e1 e2
                    exact ⟨z, hz, rfl, hr⟩
                  · obtain ⟨-, a, cap, rfl, -⟩ := hd
                    obtain ⟨z, hz, hr⟩ := key a _ cap e1 e2
                    exact ⟨z, hz, rfl, hr⟩
                  · obtain ⟨cap, rfl, -⟩ := hd
                    obtain ⟨z, hz, hr⟩ := key _ _ cap e1 e2
                    exact ⟨z, hz, rfl, hr⟩
                  · simp only [Den] at hd
                    subst hd
                    obtain ⟨z, hz, hr⟩ := key none 0 0 e1 e2
                    exact ⟨z, hz, rfl, hr⟩
                  · obtain ⟨a, rfl⟩ := hd
                    obtain ⟨z, hz, hr⟩ := key a 0 0 e1 e2
                    exact ⟨z, hz, rfl, hr⟩
                · cases h
              · cases h

end Go.Eng
