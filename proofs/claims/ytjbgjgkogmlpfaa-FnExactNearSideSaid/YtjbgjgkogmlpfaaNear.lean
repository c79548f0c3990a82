/- The cells near the source, plain: the program's rounds of pushes end, and with which cells. -/
import Derived.Test.YtjbgjgkogmlpfaaPush
namespace Go.Proofs.Ytjbgjgkogmlpfaa.Fl
open Go Go.Eng
set_option linter.unusedSimpArgs false
set_option linter.unusedVariables false
set_option maxRecDepth 100000
set_option maxHeartbeats 4000000

theorem sgN_const {f : Nat → Int} {K : Int} : ∀ n, (∀ i, i < n → f i ≤ K) → sgN f n ≤ n * K
  | 0, _ => by show (0 : Int) ≤ ((0 : Nat) : Int) * K; simp
  | n + 1, h => by
    have h1 := sgN_const n fun i hi => h i (by omega)
    have h2 := h n (by omega)
    have e : ((n + 1 : Nat) : Int) * K = n * K + K := by rw [Int.natCast_add, Int.add_mul]; simp
    show sgN f n + f n ≤ _
    rw [e]; omega
open Classical in
theorem cut_le {n : Nat} {c : Nat → Nat → Int} (hc : ∀ u v, c u v ≤ 1) (S : Nat → Prop) : cutF' n S c ≤ n * n := by
  unfold cutF'
  have h : ∀ u, u < n → sgN (fun v => if S u ∧ ¬ S v then c u v else 0) n ≤ n := fun u _ => by
    have := sgN_const (f := fun v => if S u ∧ ¬ S v then c u v else 0) (K := 1) n fun v _ => by
      split
      · exact hc u v
      · decide
    omega
  exact sgN_const n h
/-- The sides between two cells that are open. -/
def capI (nb : List Int → List (List Int)) (u v : Nat) : Int := if cl v ∈ nb (cl u) then 1 else 0
theorem capI_le (nb : List Int → List (List Int)) (u v : Nat) : capI nb u v ≤ 1 := by unfold capI; split <;> decide
def inL (A : List (List Int)) (k : Nat) : Prop := cl k ∈ A
/-- A flow, whatever way it is kept. -/
def Flw (nb : List Int → List (List Int)) (A G : List (List Int)) (F : Nat → Nat → Int) : Prop := IsFlow 100 (capI nb) (inL A) (inL G) F
def NearF (nb : List Int → List (List Int)) (A G : List (List Int)) (F : Nat → Nat → Int) (R : Nat → Prop) : Prop := IsNear 100 (capI nb) (inL A) (inL G) F R
def nearP (nb : List Int → List (List Int)) (A G : List (List Int)) (s : List Int) : Prop := ∃ F R k, Flw nb A G F ∧ NearF nb A G F R ∧ k < 100 ∧ s = cl k ∧ R k
theorem nearP_iff {nb : List Int → List (List Int)} {A G : List (List Int)} {F : Nat → Nat → Int} {R : Nat → Prop} (hF : Flw nb A G F) (hR : NearF nb A G F R) {k : Nat} (hk : k < 100) : nearP nb A G (cl k) ↔ R k := by
  constructor
  · rintro ⟨F', R', k', hF', hR', hk', e, h⟩
    obtain rfl := cl_inj e
    exact (near_same hF hF' hR hR' k hk).1 h
  · exact fun h => ⟨F, R, k, hF, hR, hk, rfl, h⟩
open Classical in
noncomputable def nearB (nb : List Int → List (List Int)) (A G : List (List Int)) (s : List Int) : Bool := decide (nearP nb A G s)
/-- How much runs. -/
noncomputable def valL (A : List (List Int)) (F : Nat → Nat → Int) : Int := valF 100 (inL A) F
theorem valL_le {nb : List Int → List (List Int)} {A G : List (List Int)} {F : Nat → Nat → Int} (hF : Flw nb A G F) (hd : ∀ s, s ∈ A → s ∉ G) : valL A F ≤ 10000 := by
  have h1 := val_le hF (S := fun k => ¬ inL G k) fun u _ => ⟨fun h => hd _ h, fun h => h⟩
  have h2 := cut_le (n := 100) (c := capI nb) (capI_le nb) fun k => ¬ inL G k
  have h3 : ((100 : Nat) : Int) * ((100 : Nat) : Int) = 10000 := rfl
  unfold valL
  omega
open Classical in
theorem valL_up {A G : List (List Int)} {F F' : Nat → Nat → Int} (hd : ∀ s, s ∈ A → s ∉ G) {s g : List Int} (hs : s ∈ A) (hg : g ∈ G) (hsc : isC s)
    (h : ∀ u, u < 100 → sgN (F' u) 100 = sgN (F u) 100 + (if cl u = s then 1 else 0) - (if cl u = g then 1 else 0)) : valL A F' = valL A F + 1 := by
  unfold valL valF
  obtain ⟨ks, hks, rfl⟩ := hsc
  have e : ∀ u, u < 100 → (if inL A u then sgN (F' u) 100 else 0) = (if inL A u then sgN (F u) 100 else 0) + (if u = ks then 1 else 0) := fun u hu => by
    by_cases ha : inL A u
    · rw [if_pos ha, if_pos ha, h u hu]
      have h1 : ¬ cl u = g := fun e => hd _ ha (by rw [e]; exact hg)
      rw [if_neg h1]
      by_cases h2 : u = ks
      · subst h2; rw [if_pos rfl, if_pos rfl]; omega
      · rw [if_neg h2, if_neg fun e => h2 (cl_inj e)]; omega
    · rw [if_neg ha, if_neg ha, if_neg fun e => ha (by rw [e]; exact hs)]; rfl
  rw [sgN_congr 100 e, sgN_add, sgN_one, if_pos hks]

/-! The program. -/
def matF (f : FL) (u v : Nat) : Int := Fw f (cl u) (cl v)
structure FlInv (nb : List Int → List (List Int)) (A G : List (List Int)) (f : FL) : Prop where
  ok : FlOk nb f
  cons : ∀ u, isC u → u ∉ A → u ∉ G → Dv f u = 0
theorem FlInv.nil (nb : List Int → List (List Int)) (A G : List (List Int)) : FlInv nb A G [] where
  ok := ⟨List.nodup_nil, fun a b _ _ h => absurd rfl h, fun a b _ _ h => absurd rfl h⟩
  cons := fun u _ _ _ => by
    unfold Dv
    have : (fun v => Fw [] u (cl v)) = fun _ => 0 := by funext v; rfl
    rw [this]; exact sgN_zero 100
theorem FlInv.flow {nb : List Int → List (List Int)} {A G : List (List Int)} {f : FL} (h : FlInv nb A G f) : Flw nb A G (matF f) where
  anti := fun u v => by unfold matF Fw; omega
  cap := fun u v hu hv => by
    unfold matF Fw capI bz
    have h1 := h.ok.op (cl u) (cl v) ⟨u, hu, rfl⟩ ⟨v, hv, rfl⟩
    by_cases h2 : lkM f (cl u ++ cl v) = 0
    · rw [if_pos h2]
      split <;> split <;> omega
    · rw [if_neg h2, if_pos (h1 h2)]
      split <;> omega
  cons := fun u hu ha hg => h.cons _ ⟨u, hu, rfl⟩ ha hg
theorem FlInv.step {nb : List Int → List (List Int)} {A G : List (List Int)} {f m : FL} {ss : List (List Int)} {r : PR} (h : FlInv nb A G f) (hs : SendOk nb A G f m ss r) (hr : r.1 = true) (hd : ∀ s, s ∈ A → s ∉ G) :
    FlInv nb A G r.2.1 ∧ valL A (matF r.2.1) = valL A (matF f) + 1 := by
  obtain ⟨⟨s, g, hsA, hg, hsc, hgc, hD⟩, hF⟩ := hs.yes hr
  refine ⟨⟨hF, fun u hu ha hgu => ?_⟩, valL_up hd hsA hg hsc fun u hu => hD _ ⟨u, hu, rfl⟩⟩
  rw [hD u hu, h.cons u hu ha hgu, if_neg (fun e => ha (by rw [e]; exact hsA)), if_neg (fun e => hgu (by rw [e]; exact hg))]; rfl
theorem FlInv.near {nb : List Int → List (List Int)} {A G : List (List Int)} {f : FL} {r : PR} (hnb : ∀ a, isC a → ∀ t, t ∈ nb a → isC t ∧ t ≠ a) (hsy : ∀ a b, isC a → isC b → b ∈ nb a → a ∈ nb b) (hA : ∀ s, s ∈ A → isC s) (h : FlInv nb A G f) (hs : SendOk nb A G f [] A r) (hr : r.1 = false) :
    NearF nb A G (matF f) (fun k => lkM r.2.2 (cl k) ≠ 0) := by
  obtain ⟨h1, h2, h3⟩ := hs.no hr
  have free : ∀ u v, u < 100 → v < 100 → (matF f u v < capI nb u v ↔ cl v ∈ nb (cl u) ∧ lkM f (cl u ++ cl v) = 0) := fun u v hu hv => by
    unfold matF Fw capI bz
    have hop := h.ok.op (cl u) (cl v) ⟨u, hu, rfl⟩ ⟨v, hv, rfl⟩
    have hone := h.ok.one (cl u) (cl v) ⟨u, hu, rfl⟩ ⟨v, hv, rfl⟩
    have hrev := h.ok.op (cl v) (cl u) ⟨v, hv, rfl⟩ ⟨u, hu, rfl⟩
    by_cases e1 : cl v ∈ nb (cl u)
    · rw [if_pos e1]
      by_cases e2 : lkM f (cl u ++ cl v) = 0
      · rw [if_pos e2]
        refine ⟨fun _ => ⟨e1, e2⟩, fun _ => ?_⟩
        split <;> omega
      · rw [if_neg e2, if_pos (hone e2)]
        exact ⟨fun g => by omega, fun g => absurd g.2 e2⟩
    · rw [if_neg e1]
      have e2 : lkM f (cl u ++ cl v) = 0 := Classical.byContradiction fun g => e1 (hop g)
      have e3 : lkM f (cl v ++ cl u) = 0 := Classical.byContradiction fun g => e1 (hsy _ _ ⟨v, hv, rfl⟩ ⟨u, hu, rfl⟩ (hrev g))
      rw [if_pos e2, if_pos e3]
      exact ⟨fun g => by omega, fun g => absurd g.1 e1⟩
  refine ⟨fun u hu => ⟨fun ha => h2 _ ha, fun hm hg => (h3 _ ⟨u, hu, rfl⟩ rfl hm).1 hg⟩, fun u v hu hv hm hlt => ?_, fun S hSA hS u hu hm => ?_⟩
  · obtain ⟨q1, q2⟩ := (free u v hu hv).1 hlt
    exact (h3 _ ⟨u, hu, rfl⟩ rfl hm).2.1 _ q1 q2
  · have := (h3 _ ⟨u, hu, rfl⟩ rfl hm).2.2 (fun a => ∃ k, k < 100 ∧ a = cl k ∧ S k) (fun s hs => by
      obtain ⟨k, hk, rfl⟩ := hA s hs
      exact ⟨k, hk, rfl, hSA k hk hs⟩) (fun a ha hSa t ht h0 => by
      obtain ⟨k, hk, rfl, hSk⟩ := hSa
      obtain ⟨⟨kt, hkt, rfl⟩, -⟩ := hnb _ ⟨k, hk, rfl⟩ t ht
      exact ⟨kt, hkt, rfl, hS k kt hk hkt hSk ((free k kt hk hkt).2 ⟨ht, h0⟩)⟩)
    obtain ⟨k, hk, e, hSk⟩ := this
    obtain rfl := cl_inj e
    exact hSk
end Go.Proofs.Ytjbgjgkogmlpfaa.Fl
