/- The calls of the law on lists of lists, said of the world. -/
import Derived.Test.YtfelemoefhbphaaYdW
import Derived.Test.YtfelemoefhbphaaYdP
namespace Go.Proofs.Ytfelemoefhbphaa
open Go Go.Eng Go.RowKit
set_option maxRecDepth 100000
set_option maxHeartbeats 4000000

/-- All that lies in the world. -/
def hp (w : World) : Nat → Option Obj := fun k => w.heap[k]?
/-- What lies there from n on. -/
def hpN (n : Nat) (w : World) : Nat → Option Obj := fun k => if n ≤ k then w.heap[k]? else none
def rF (F : Nat → Option Obj) : Rho := ⟨fun _ => ⟨0, 0, 0, .bool, 0⟩, F, trivial⟩
theorem rF_rel {F : Nat → Option Obj} {w : World} (h : ∀ k o, F k = some o → w.heap[k]? = some o) : MRel (rF F) [] w := mrel_nil h
theorem hp_le {w w' : World} (h : Below w.heap.size w w') : ∀ k o, hp w k = some o → hp w' k = some o := fun k o hk => by
  have hk' : w.heap[k]? = some o := hk
  show w'.heap[k]? = some o
  rw [h.block k (Array.getElem?_eq_some_iff.1 hk').1]; exact hk'
theorem hpN_le {n : Nat} {w : World} : ∀ k o, hpN n w k = some o → hp w k = some o := fun k o hk => by
  unfold hpN at hk
  split at hk
  · exact hk
  · cases hk
theorem call0 {f : FuncId} {S : Fun} {args : List AV} {r : AV} {vs : List Prop} (hS : Sound Try.prog f S) (hf : S args [] = some (r, [], vs)) (hv : allP vs) {F : Nat → Option Obj} {w : World} (hF : ∀ k o, F k = some o → w.heap[k]? = some o)
    {vals : List Value} (hd : Dens (rF F) args vals) (hids : ∀ x ∈ args, x.ids = []) (hr : r.ids = []) :
    Calls Try.prog f vals.toArray w fun e w' => ∃ v F', e = .returned v ∧ Below w.heap.size w w' ∧ (∀ k o, F' k = some o → w'.heap[k]? = some o) ∧ (∀ k o, F' k = some o → F k = some o ∨ w.heap.size ≤ k) ∧ Den (rF F') r v := by
  refine (hS _ _ _ _ _ hf hv (rF F) vals w hd (rF_rel hF) (fun x hx i hi => by rw [hids x hx] at hi; cases hi)).mono ?_
  rintro e w' ⟨v, ρ', rfl, h1, h2, -⟩
  refine ⟨v, ρ'.F, rfl, h2.below, fun k o hk => (h2.rel.env k o hk).1, fun k o hk => ?_, Den.congr (ρ := ρ') (ρ' := rF ρ'.F) (r := r) (x := v) (show ρ'.le (rF ρ'.F) from fun _ _ h => h) (fun id hid => (by rw [hr] at hid; cases hid)) h1⟩
  rcases h2.fnew k o hk with h | h | ⟨i, hl, -⟩
  · exact .inl h
  · exact .inr h
  · have := hl.lt; simp at this

/-- What is told of the yards. -/
structure YdOk (L : List (List (List Int))) : Prop where
  n : L.length ≤ 100
  row : ∀ Y ∈ L, Y.length ≤ 100 ∧ Y ≠ []
  dis : L.Pairwise fun Y Z => ∀ s, s ∈ Y → s ∉ Z
theorem ydL_ok (p : List Int) : YdOk (ydL p) := by
  unfold ydL
  split
  · rename_i h
    have hd : okD p := h.1
    obtain ⟨h1, h2⟩ := yards_dis hd
    exact ⟨yL_100 hd, fun Y hY => ⟨(yL_cells hd hY).2, h1 Y hY⟩, h2⟩
  · exact ⟨Nat.zero_le _, fun Y hY => (by cases hY), List.Pairwise.nil⟩

theorem c_impl {w : World} {p : List Int} {v : Value} (hv : Den (rF fun _ => none) (.ag .pas p) v) : Calls Try.prog 23 #[v] w fun e w' => ∃ u, e = .returned (.tuple #[u, .int .i64 (ydC p)]) ∧ Below w.heap.size w w' ∧ FSS (hpN w.heap.size w') .spot (ydL p) u := by
  refine (call0 s_ydAny (r := .t2 (.fz .spot (ydL p)) (.i .i64 (ydC p))) (args := [.ag .pas p]) rfl trivial (F := fun _ => none) (vals := [v]) (fun k o h => (by cases h)) ⟨hv, trivial⟩ (fun x hx => by rw [List.mem_singleton] at hx; subst hx; rfl) rfl).mono ?_
  rintro e w' ⟨u, F', rfl, h1, h2, h3, y, z, rfl, h4, h5, -⟩
  subst h5
  refine ⟨y, rfl, h1, FSS.mono (fun k o hk => ?_) h4⟩
  rcases h3 k o hk with g | g
  · cases g
  · unfold hpN; rw [if_pos g]; exact h2 k o hk
theorem c_eq {w : World} {L : List (List (List Int))} (hL : YdOk L) {u u' : Value} (h : FSS (hp w) .spot L u) (h' : FSS (hp w) .spot L u') : Calls Try.prog 24 #[u, u'] w fun e w' => e = .returned (.bool true) ∧ Below w.heap.size w w' := by
  refine (call0 s_eqSS (r := .d true) (args := [.fz .spot L, .fz .spot L]) rfl ⟨⟨rfl, Nat.le_trans hL.n (by decide), fun i hi => Nat.le_trans (hL.row _ (getD_mem hi)).1 (by decide)⟩, trivial⟩ (F := hp w) (vals := [u, u']) (fun k o h => h) ⟨h, h', trivial⟩ (fun x hx => by
    simp only [List.mem_cons, List.not_mem_nil, or_false] at hx
    rcases hx with rfl | rfl <;> rfl) rfl).mono ?_
  rintro e w' ⟨u, F', rfl, h1, h2, h3, h4⟩
  exact ⟨by rw [show u = .bool true from h4], h1⟩
theorem mkLL_self : ∀ (L : List (List (List Int))) (k : Int), mkLL k (mkLL k L) = mkLL k L
  | [], _ => rfl
  | Y :: l, k => by
    show mkL k (mkL k Y.length).length :: mkLL (k + 2 * (mkL k Y.length).length) (mkLL (k + 2 * Y.length) l) = _
    rw [mkL_len, mkLL_self l]; rfl
theorem endK_mk : ∀ (L : List (List (List Int))) (k : Int), endK k (mkLL k L) = endK k L
  | [], _ => rfl
  | Y :: l, k => by
    show endK (k + 2 * (mkL k Y.length).length) (mkLL (k + 2 * Y.length) l) = _
    rw [mkL_len, endK_mk l]; rfl
end Go.Proofs.Ytfelemoefhbphaa
