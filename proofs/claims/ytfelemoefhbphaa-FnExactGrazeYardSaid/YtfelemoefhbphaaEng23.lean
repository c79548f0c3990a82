/- The engine, part 23: a row's argument that is a slice. No conditions. -/
import Derived.Test.YtfelemoefhbphaaEng22
import Derived.ChangeSlices
import Derived.SliceStrings
import Derived.ChangeMaps5
namespace Go.Eng
open Go Go.RowKit Go.ChangeShapes Go.WideShapes Go.ChangeAt
variable {P : Program} {Γ : Tab}
variable {H : Type} {enc : TypeId × Value → H} {w : World} {base : Nat} {spare : Nat → Bool} {held : Bool}

/-- Its rows. -/
theorem open_rows (T : TabOk P Γ) {t e : TypeId} {σ : Sg} {r : Reach} {b0 : Nat} {v : Value} {d : DataW H} {ps : List MemPlace} (hu : P.underlying t = some (.slice e)) (ht : Γ.sg e = σ) (hp : σ.pure = true) (hn : 0 < σ.n)
    (hval : Value.okWide P w r b0 t v) (hd : DataW.Trod enc P w base spare held t v d ps) : ∃ rows, FS (fun k => w.heap[k]?) σ rows v ∧ rows.length ≤ maxLen := by
  obtain ⟨a0, len0, cap0, rfl⟩ := okWide_slice hu hval
  obtain ⟨fuel, hf⟩ := hd
  rcases DataW.trod_slice hu hf with ⟨h0, -⟩ | ⟨a, len, cap, elems, rest, n, -, hcs, -, hb, hl, hm, hlen, hel, -, -⟩
  · simp [Value.cells] at h0
    obtain ⟨rfl, rfl, rfl⟩ := h0
    exact ⟨[], ⟨hp, hn, by simp, none, 0, rfl, by simp, .inl rfl⟩, by simp⟩
  · simp [Value.cells] at hcs
    obtain ⟨rfl, rfl, rfl⟩ := hcs
    have hce := T.cells ht (Sg.pure_ne hp hn)
    rw [hce] at hel
    have each : ∀ i, i < len0 → ∃ row : List Int, row.length = σ.n ∧ cellsOk σ.flat row ∧ ∀ j, j < σ.n → w.cell? ((a.add (i * σ.n)).add j) = (cellsV σ.flat row)[j]? := by
      intro i hi
      have h1 := hel i hi
      rw [List.getElem?_eq_getElem (by omega), Option.bind_eq_some_iff] at h1
      obtain ⟨cs, hc1, hc2⟩ := h1
      obtain ⟨h2, h3⟩ := (trod_pure T n e σ cs _ ht hp (Sg.pure_ne hp hn) hc2).1
      obtain ⟨xs, e1, hl2, hok⟩ := cells_of (ks := σ.flat) (cs := cs) (by rw [Sg.flat_len σ hp]; exact h2) h3
      obtain ⟨-, -, h4⟩ := World.cells?_some hc1
      exact ⟨xs, by rw [hl2, Sg.flat_len σ hp], hok, fun j hj => by rw [h4 j hj, e1]⟩
    have hch : ∃ f : Nat → List Int, ∀ i, i < len0 → (f i).length = σ.n ∧ cellsOk σ.flat (f i) ∧ ∀ j, j < σ.n → w.cell? ((a.add (i * σ.n)).add j) = (cellsV σ.flat (f i))[j]? := by
      refine ⟨fun i => if h : i < len0 then (each i h).choose else [], fun i hi => ?_⟩
      simp only [hi, dif_pos]
      exact (each i hi).choose_spec
    obtain ⟨f, hfr⟩ := hch
    refine ⟨(List.range len0).map f, ?_, by simp; omega⟩
    refine ⟨hp, hn, by simp; omega, some a, cap0, by simp, by simp; exact hl, ?_⟩
    by_cases h0 : len0 = 0
    · left; subst h0; rfl
    right
    have hpos : 0 < len0 := by omega
    have add_add : ∀ (x y : Nat), (a.add x).add y = a.add (x + y) := by
      intro x y
      unfold Addr.add
      by_cases hx : x = 0
      · subst hx; simp
      · by_cases hy : y = 0
        · subst hy; simp [hx]
        · rw [if_neg hx, if_neg hy, if_neg (by omega)]
          simp [Nat.add_assoc]
    have hcell : ∀ i j, i < len0 → j < σ.n → w.cell? (a.add (i * σ.n + j)) = (cellsV σ.flat (f i))[j]? := by
      intro i j hi hj
      rw [← add_add]; exact (hfr i hi).2.2 j hj
    -- the block
    have hfirst : ∃ v0, w.cell? a = some v0 := by
      have := hcell 0 0 hpos hn
      rw [Nat.zero_mul, Nat.zero_add] at this
      rw [show a.add 0 = a from rfl] at this
      have hk : (f 0).length = σ.n := (hfr 0 hpos).1
      have hy : (f 0)[0]? = some ((f 0)[0]'(by omega)) := List.getElem?_eq_getElem _
      rw [cellsV_get σ.flat (f 0) 0 _ _ hy (getD_some (by rw [Sg.flat_len σ hp]; exact hn) .bool)] at this
      exact ⟨_, this⟩
    obtain ⟨v0, hv0⟩ := hfirst
    unfold World.cell? at hv0
    cases hh : w.heap[a.block]? with
    | none => rw [hh] at hv0; cases hv0
    | some o =>
      rw [hh] at hv0
      cases o with
      | cells C ty fz =>
        have hsp : a.spot = none := by
          cases hs : a.spot with
          | none => rfl
          | some q => simp [hs] at hv0
        obtain ⟨bk, off, sp⟩ := a
        dsimp only at hsp hh
        subst hsp
        refine ⟨bk, off, C, ty, fz, rfl, hh, fun i row hi => ?_⟩
        rw [List.getElem?_map] at hi
        have hil : i < len0 := by
          rcases Nat.lt_or_ge i len0 with h | h
          · exact h
          · rw [List.getElem?_eq_none (by simpa using h)] at hi; cases hi
        rw [List.getElem?_range hil] at hi
        simp only [Option.map_some, Option.some.injEq] at hi
        subst hi
        obtain ⟨k1, k2, k3⟩ := hfr i hil
        refine ⟨k1, fun j y hy => ?_⟩
        have hj : j < σ.n := by have := (List.getElem?_eq_some_iff.1 hy).1; omega
        have hjf : j < σ.flat.length := by rw [Sg.flat_len σ hp]; exact hj
        have h5 := hcell i j hil hj
        rw [cellsV_get σ.flat (f i) j y _ hy (getD_some hjf .bool)] at h5
        refine ⟨?_, cellsOk_get σ.flat (f i) j y _ k2 hy (getD_some hjf _)⟩
        rw [← h5]
        unfold World.cell? Addr.add
        by_cases hz : i * σ.n + j = 0
        · simp [hz, hh, show off + i * σ.n + j = off from by omega]
        · rw [if_neg hz]
          simp only [hh]
          rw [Nat.add_assoc]
          rfl
      | _ => cases hv0

theorem trod_lt' {t : TypeId} {v : Value} {d : DataW H} {ps : List MemPlace} (hd : DataW.Trod enc P w base spare held t v d ps) : ∀ p ∈ ps, p.block < w.heap.size := by
  obtain ⟨fuel, hf⟩ := hd
  exact DataW.trod_lt fuel t _ _ hf

theorem den_fs {ρ : Rho} {σ : Sg} {rows : List (List Int)} {v : Value} {W : World} (h : FS (fun k => W.heap[k]?) σ rows v) (hF : ρ.F = fun k => W.heap[k]?) : Den ρ (.fs σ rows) v := by
  show FS ρ.F σ rows v
  rw [hF]; exact h

end Go.Eng
