/- The engine, part 22: loops in which memory grows; nil rows. No conditions. -/
import Derived.Test.YtfelemoefhbphaaEng21
namespace Go.Eng
open Go Go.RowKit
variable {P : Program} {Γ : Tab} {R : AV → List Blk → Prop} {fn : FuncId} {m : Nat}

/-- Frame and memory are so, once renumbered. -/
def RenOk (m : Nat) (σ : List Nat) (fr : List AV) (M : List Blk) (fr' : List AV) (M' : List Blk) : Prop :=
  σ.length = M.length ∧ σ.take m = List.range m ∧ nodupB σ = true ∧ leF (fr.map (AV.mapI fun i => σ.getD i 0)) fr' ∧ finB σ M' 0 M ∧ (fr.all fun x => x.ids.all fun i => decide (i < M.length)) = true ∧ closedB M = true ∧ Nat.ble m M.length = true

theorem Goes.ren {todo : List Item} {fr fr' : List AV} {M M' : List Blk} (σ : List Nat) (h : RenOk m σ fr M fr' M') (g : Goes P fn m todo fr M R) : Goes P fn m todo fr' M' R := by
  obtain ⟨h1, h2, h3, h4, h5, h6, h7, h8⟩ := h
  exact Goes.renum σ h1 h2 h3 h4 h5 h6 h7 (Nat.le_of_ble_eq_true h8) g

/-- A loop, with its first entry; at each return memory is renumbered. -/
theorem Goes.loopR {ι : Type} (μ : ι → Nat) (I : ι → Prop) (fr : ι → List AV) (M : ι → List Blk) {todo : List Item} {fr0 : List AV} {M0 : List Blk} (i0 : ι) (σ0 : List Nat) (h0 : I i0)
    (e0 : RenOk m σ0 (fr i0) (M i0) fr0 M0)
    (h : ∀ i, I i → (∀ j, I j → μ j < μ i → ∀ σ fr' M', RenOk m σ (fr j) (M j) fr' M' → Goes P fn m todo fr' M' R) → Goes P fn m todo (fr i) (M i) R) : Goes P fn m todo fr0 M0 R :=
  Goes.ren σ0 e0 (Goes.loop (S := fun _ => R) μ I (fun i hi ih => h i hi fun j hj hlt σ _ _ h1 => Goes.ren σ h1 (ih j hj hlt)) i0 h0)

theorem den_nil {ρ : Rho} {σ : Sg} {v : Value} (hp : σ.pure = true) (hn : 0 < σ.n) (h : Den ρ .nsl v) : Den ρ (.fs σ []) v := by
  simp only [Den] at h
  subst h
  exact ⟨hp, hn, by simp, none, 0, rfl, by simp, .inl rfl⟩

/-- A nil slice reads as no rows. -/
def unnil (σ : Sg) : AV → AV
  | .nsl => .fs σ []
  | x => x

def nilS (σ : Sg) (S : Fun) : Fun := fun args M => S (args.map (unnil σ)) M

theorem unnil_ids (σ : Sg) (x : AV) : (unnil σ x).ids = x.ids := by cases x <;> rfl

theorem nil_sound {σ : Sg} (hp : σ.pure = true) (hn : 0 < σ.n) {f : FuncId} {S : Fun} (h : Sound P f S) : Sound P f (nilS σ S) := by
  intro args M r M' vs he hv ρ vals w hd hM hi
  refine h _ _ _ _ _ he hv ρ vals w ?_ hM ?_
  · clear he hi
    induction args generalizing vals with
    | nil => cases vals <;> exact hd
    | cons x l ih =>
      cases vals with
      | nil => exact hd.elim
      | cons v vs =>
        refine ⟨?_, ih vs hd.2⟩
        cases x <;> first | exact hd.1 | exact den_nil hp hn hd.1
  · intro x hx i hix
    rw [List.mem_map] at hx
    obtain ⟨y, hy, rfl⟩ := hx
    rw [unnil_ids] at hix
    exact hi y hy i hix

end Go.Eng
