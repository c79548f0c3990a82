/- Flows and cuts, plain: whatever flow is the largest, the cells near the source are the same. -/
import Derived.Test.YtjbgjgkogmlpfaaGreatBase
namespace Go.Proofs.YtjbgjgkogmlpfaaGreat.Fl
open Go Go.Eng
set_option linter.unusedSimpArgs false
set_option linter.unusedVariables false
set_option maxRecDepth 100000
set_option maxHeartbeats 4000000

def sgN (f : Nat → Int) : Nat → Int
  | 0 => 0
  | n + 1 => sgN f n + f n
theorem sgN_congr {f g : Nat → Int} : ∀ n, (∀ i, i < n → f i = g i) → sgN f n = sgN g n
  | 0, _ => rfl
  | n + 1, h => by
    show sgN f n + f n = sgN g n + g n
    rw [sgN_congr n fun i hi => h i (by omega), h n (by omega)]
theorem sgN_add (f g : Nat → Int) : ∀ n, sgN (fun i => f i + g i) n = sgN f n + sgN g n
  | 0 => rfl
  | n + 1 => by
    show sgN (fun i => f i + g i) n + (f n + g n) = sgN f n + f n + (sgN g n + g n)
    rw [sgN_add f g n]; omega
theorem sgN_neg (f : Nat → Int) : ∀ n, sgN (fun i => - f i) n = - sgN f n
  | 0 => rfl
  | n + 1 => by
    show sgN (fun i => - f i) n + - f n = - (sgN f n + f n)
    rw [sgN_neg f n]; omega
theorem sgN_zero : ∀ n, sgN (fun _ => 0) n = 0
  | 0 => rfl
  | n + 1 => by show sgN (fun _ => 0) n + 0 = 0; rw [sgN_zero n]; rfl
theorem sgN_le {f g : Nat → Int} : ∀ n, (∀ i, i < n → f i ≤ g i) → sgN f n ≤ sgN g n
  | 0, _ => Int.le_refl _
  | n + 1, h => by
    show sgN f n + f n ≤ sgN g n + g n
    have h1 := sgN_le n fun i hi => h i (by omega)
    have h2 := h n (by omega)
    omega
theorem sgN_eq_of_le {f g : Nat → Int} : ∀ n, (∀ i, i < n → f i ≤ g i) → sgN f n = sgN g n → ∀ i, i < n → f i = g i
  | 0, _, _ => fun i hi => by omega
  | n + 1, h, he => fun i hi => by
    have h1 := sgN_le n fun i hi => h i (by omega)
    have h2 := h n (by omega)
    have he : sgN f n + f n = sgN g n + g n := he
    by_cases hin : i = n
    · subst hin; omega
    · exact sgN_eq_of_le n (fun i hi => h i (by omega)) (by omega) i (by omega)
theorem sgN_swap (f : Nat → Nat → Int) (m : Nat) : ∀ n, sgN (fun u => sgN (f u) m) n = sgN (fun v => sgN (fun u => f u v) n) m
  | 0 => (sgN_zero m).symm
  | n + 1 => by
    show sgN (fun u => sgN (f u) m) n + sgN (f n) m = _
    rw [sgN_swap f m n, ← sgN_add]; rfl
/-- Antisymmetric terms sum to nothing. -/
theorem sgN_anti {f : Nat → Nat → Int} (n : Nat) (h : ∀ u v, f u v = - f v u) : sgN (fun u => sgN (f u) n) n = 0 := by
  have h1 : sgN (fun u => sgN (f u) n) n = sgN (fun u => - sgN (fun v => f v u) n) n := sgN_congr n fun u _ => by
    rw [← sgN_neg]; exact sgN_congr n fun v _ => h u v
  rw [sgN_neg] at h1
  have h2 := sgN_swap f n n
  omega
/-- One term alone. -/
theorem sgN_one (k : Nat) (x : Int) : ∀ n, sgN (fun i => if i = k then x else 0) n = if k < n then x else 0
  | 0 => by rw [if_neg (Nat.not_lt_zero k)]; rfl
  | n + 1 => by
    show sgN (fun i => if i = k then x else 0) n + (if n = k then x else 0) = _
    rw [sgN_one k x n]
    by_cases h : n = k
    · rw [if_pos h, if_neg (by omega), if_pos (by omega)]; omega
    · rw [if_neg h]
      by_cases h2 : k < n
      · rw [if_pos h2, if_pos (by omega)]; omega
      · rw [if_neg h2, if_neg (by omega)]; rfl

/-- What runs from the cells of A to those of B, over sides of the width c. -/
structure IsFlow (n : Nat) (c : Nat → Nat → Int) (A B : Nat → Prop) (f : Nat → Nat → Int) : Prop where
  anti : ∀ u v, f u v = - f v u
  cap : ∀ u v, u < n → v < n → f u v ≤ c u v
  cons : ∀ u, u < n → ¬ A u → ¬ B u → sgN (f u) n = 0
open Classical in
noncomputable def valF (n : Nat) (A : Nat → Prop) (f : Nat → Nat → Int) : Int := sgN (fun u => if A u then sgN (f u) n else 0) n
open Classical in
noncomputable def cutF' (n : Nat) (S : Nat → Prop) (f : Nat → Nat → Int) : Int := sgN (fun u => sgN (fun v => if S u ∧ ¬ S v then f u v else 0) n) n
/-- S parts A from B. -/
def Parts (n : Nat) (A B S : Nat → Prop) : Prop := ∀ u, u < n → (A u → S u) ∧ (S u → ¬ B u)
theorem val_cut {n : Nat} {c : Nat → Nat → Int} {A B S : Nat → Prop} {f : Nat → Nat → Int} (hf : IsFlow n c A B f) (hS : Parts n A B S) : valF n A f = cutF' n S f := by
  classical
  have h1 : valF n A f = sgN (fun u => if S u then sgN (f u) n else 0) n := by
    refine sgN_congr n fun u hu => ?_
    by_cases ha : A u
    · rw [if_pos ha, if_pos ((hS u hu).1 ha)]
    · rw [if_neg ha]
      by_cases hs : S u
      · rw [if_pos hs, hf.cons u hu ha ((hS u hu).2 hs)]
      · rw [if_neg hs]
  have h2 : (fun u => if S u then sgN (f u) n else 0) = fun u => sgN (fun v => if S u ∧ S v then f u v else 0) n + sgN (fun v => if S u ∧ ¬ S v then f u v else 0) n := by
    funext u
    rw [← sgN_add]
    by_cases hs : S u
    · rw [if_pos hs]
      refine sgN_congr n fun v _ => ?_
      by_cases hv : S v <;> simp [hs, hv]
    · rw [if_neg hs]
      have : (fun v => (if S u ∧ S v then f u v else 0) + (if S u ∧ ¬ S v then f u v else 0)) = fun _ => 0 := by funext v; simp [hs]
      rw [this, sgN_zero]
  have h3 : sgN (fun u => sgN (fun v => if S u ∧ S v then f u v else 0) n) n = 0 := sgN_anti n fun u v => by
    by_cases h : S u ∧ S v
    · rw [if_pos h, if_pos ⟨h.2, h.1⟩]; exact hf.anti u v
    · rw [if_neg h, if_neg fun g => h ⟨g.2, g.1⟩]; rfl
  rw [h1, h2, sgN_add, h3]
  unfold cutF'
  omega
theorem val_le {n : Nat} {c : Nat → Nat → Int} {A B S : Nat → Prop} {f : Nat → Nat → Int} (hf : IsFlow n c A B f) (hS : Parts n A B S) : valF n A f ≤ cutF' n S c := by
  classical
  rw [val_cut hf hS]
  refine sgN_le n fun u hu => sgN_le n fun v hv => ?_
  by_cases h : S u ∧ ¬ S v
  · rw [if_pos h, if_pos h]; exact hf.cap u v hu hv
  · rw [if_neg h, if_neg h]; exact Int.le_refl _
/-- All that is reached from A with what is free. -/
structure IsNear (n : Nat) (c : Nat → Nat → Int) (A B : Nat → Prop) (f : Nat → Nat → Int) (R : Nat → Prop) : Prop where
  parts : Parts n A B R
  shut : ∀ u v, u < n → v < n → R u → f u v < c u v → R v
  least : ∀ S : Nat → Prop, (∀ u, u < n → A u → S u) → (∀ u v, u < n → v < n → S u → f u v < c u v → S v) → ∀ u, u < n → R u → S u
theorem near_val {n : Nat} {c : Nat → Nat → Int} {A B : Nat → Prop} {f g : Nat → Nat → Int} {R : Nat → Prop} (hf : IsFlow n c A B f) (hg : IsFlow n c A B g) (hR : IsNear n c A B f R) : valF n A g ≤ valF n A f := by
  classical
  refine Int.le_trans (val_le hg hR.parts) ?_
  rw [val_cut hf hR.parts]
  refine sgN_le n fun u hu => sgN_le n fun v hv => ?_
  by_cases h : R u ∧ ¬ R v
  · rw [if_pos h, if_pos h]
    refine Int.not_lt.1 fun hlt => h.2 (hR.shut u v hu hv h.1 hlt)
  · rw [if_neg h, if_neg h]; exact Int.le_refl _
theorem near_sub {n : Nat} {c : Nat → Nat → Int} {A B : Nat → Prop} {f g : Nat → Nat → Int} {R Q : Nat → Prop} (hf : IsFlow n c A B f) (hg : IsFlow n c A B g) (hR : IsNear n c A B f R) (hQ : IsNear n c A B g Q) : ∀ u, u < n → Q u → R u := by
  classical
  have e1 := near_val hf hg hR
  have e2 := near_val hg hf hQ
  have e3 := val_cut hf hR.parts
  have e4 := val_cut hg hR.parts
  have hle : ∀ u v, u < n → v < n → (if R u ∧ ¬ R v then g u v else 0) ≤ (if R u ∧ ¬ R v then f u v else 0) := fun u v hu hv => by
    by_cases h : R u ∧ ¬ R v
    · rw [if_pos h, if_pos h]
      have h1 := hg.cap u v hu hv
      have h2 : ¬ f u v < c u v := fun hlt => h.2 (hR.shut u v hu hv h.1 hlt)
      omega
    · rw [if_neg h, if_neg h]; exact Int.le_refl _
  have hrow := sgN_eq_of_le n (fun u hu => sgN_le n fun v hv => hle u v hu hv) (show cutF' n R g = cutF' n R f by omega)
  refine hQ.least R (fun u hu => (hR.parts u hu).1) fun u v hu hv hRu hlt => ?_
  apply Classical.byContradiction
  intro hRv
  have h1 := sgN_eq_of_le n (fun v hv => hle u v hu hv) (hrow u hu) v hv
  rw [if_pos ⟨hRu, hRv⟩, if_pos ⟨hRu, hRv⟩] at h1
  have h2 := hf.cap u v hu hv
  exact hRv (hR.shut u v hu hv hRu (by omega))
/-- The cells near the source are the same, whatever flow is the largest. -/
theorem near_same {n : Nat} {c : Nat → Nat → Int} {A B : Nat → Prop} {f g : Nat → Nat → Int} {R Q : Nat → Prop} (hf : IsFlow n c A B f) (hg : IsFlow n c A B g) (hR : IsNear n c A B f R) (hQ : IsNear n c A B g Q) : ∀ u, u < n → (Q u ↔ R u) :=
  fun u hu => ⟨near_sub hf hg hR hQ u hu, near_sub hg hf hQ hR u hu⟩
end Go.Proofs.YtjbgjgkogmlpfaaGreat.Fl

namespace Go.Proofs.YtjbgjgkogmlpfaaGreat.Fl
open Go Go.Eng
set_option linter.unusedSimpArgs false
set_option linter.unusedVariables false
set_option maxRecDepth 100000
set_option maxHeartbeats 4000000

abbrev FL := List (List Int × Int)
/-- The cells by number. -/
def cl (k : Nat) : List Int := [((k % 10 : Nat) : Int), ((k / 10 : Nat) : Int)]
def isC (s : List Int) : Prop := ∃ k, k < 100 ∧ s = cl k
theorem cl_inj {k l : Nat} (h : cl k = cl l) : k = l := by
  unfold cl at h
  simp only [List.cons.injEq, and_true] at h
  omega
theorem isC_len {s : List Int} (h : isC s) : s.length = 2 := by obtain ⟨k, -, rfl⟩ := h; rfl
theorem key_inj {a b c d : List Int} (ha : a.length = 2) (hc : c.length = 2) : (a ++ b = c ++ d) = (a = c ∧ b = d) := by
  refine propext ⟨fun h => ?_, fun h => by rw [h.1, h.2]⟩
  exact List.append_inj h (by rw [ha, hc])

/-! Maps. -/
def kn (f : FL) : Prop := (f.map (·.1)).Nodup
theorem lkM_notin {f : FL} {q : List Int} (h : q ∉ f.map (·.1)) : lkM f q = 0 := by
  induction f with
  | nil => rfl
  | cons e es ih =>
    simp only [List.map_cons, List.mem_cons, not_or] at h
    unfold lkM
    rw [if_neg h.1]; exact ih h.2
theorem delM_keys (f : FL) (q : List Int) : List.Sublist ((delM f q).map (·.1)) (f.map (·.1)) := by
  induction f with
  | nil => exact List.Sublist.refl _
  | cons e es ih =>
    unfold delM
    split
    · exact List.sublist_cons_self _ _
    · exact ih.cons_cons _
theorem kn_del {f : FL} (h : kn f) (q : List Int) : kn (delM f q) := (delM_keys f q).nodup h
theorem upM_keys {f : FL} {q r : List Int} {v : Int} (h : r ∈ (upM f q v).map (·.1)) : r = q ∨ r ∈ f.map (·.1) := by
  induction f with
  | nil => simp only [upM, List.map_cons, List.map_nil, List.mem_singleton] at h; exact .inl h
  | cons e es ih =>
    unfold upM at h
    split at h
    · rename_i hq
      simp only [List.map_cons, List.mem_cons] at h
      rcases h with h | h
      · exact .inl h
      · exact .inr (List.mem_cons_of_mem _ h)
    · simp only [List.map_cons, List.mem_cons] at h
      rcases h with h | h
      · exact .inr (by rw [h]; exact List.mem_cons_self)
      · rcases ih h with h | h
        · exact .inl h
        · exact .inr (List.mem_cons_of_mem _ h)
theorem kn_up {f : FL} (h : kn f) (q : List Int) (v : Int) : kn (upM f q v) := by
  induction f with
  | nil => simp [kn, upM]
  | cons e es ih =>
    unfold kn at h
    simp only [List.map_cons, List.nodup_cons] at h
    unfold upM
    split
    · rename_i hq
      unfold kn
      simp only [List.map_cons, List.nodup_cons]
      rw [hq]; exact h
    · rename_i hq
      unfold kn
      simp only [List.map_cons, List.nodup_cons]
      refine ⟨fun g => ?_, ih h.2⟩
      rcases upM_keys g with g | g
      · exact hq g.symm
      · exact h.1 g
theorem lkM_delM {f : FL} (h : kn f) (q r : List Int) : lkM (delM f q) r = if r = q then 0 else lkM f r := by
  induction f with
  | nil => simp [delM, lkM]
  | cons e es ih =>
    unfold kn at h
    simp only [List.map_cons, List.nodup_cons] at h
    unfold delM
    split
    · rename_i hq
      by_cases hr : r = q
      · rw [if_pos hr, hr, hq]; exact lkM_notin h.1
      · rw [if_neg hr]
        exact (show lkM (e :: es) r = lkM es r from if_neg (fun g => hr (by rw [g, hq]))).symm
    · rename_i hq
      show lkM (e :: delM es q) r = if r = q then 0 else lkM (e :: es) r
      unfold lkM
      rw [ih h.2]
      by_cases hr : r = e.1
      · rw [if_pos hr, if_pos hr, if_neg (fun g => hq (by rw [← g, hr]))]
      · rw [if_neg hr, if_neg hr]

/-! Flows. -/
def bz (x : Int) : Int := if x = 0 then 0 else 1
def Fw (f : FL) (a b : List Int) : Int := bz (lkM f (a ++ b)) - bz (lkM f (b ++ a))
def Dv (f : FL) (u : List Int) : Int := sgN (fun v => Fw f u (cl v)) 100
def updF (f : FL) (s t : List Int) : FL := if lkM f (t ++ s) = 0 then upM f (s ++ t) 1 else delM f (t ++ s)
theorem updF_lk {f : FL} (hk : kn f) {s t : List Int} (hs : s.length = 2) (ht : t.length = 2) {a b : List Int} (ha : a.length = 2) :
    lkM (updF f s t) (a ++ b) = if lkM f (t ++ s) = 0 then (if a = s ∧ b = t then 1 else lkM f (a ++ b)) else (if a = t ∧ b = s then 0 else lkM f (a ++ b)) := by
  unfold updF
  split
  · rw [lkM_upM]; simp only [key_inj ha hs]
  · rw [lkM_delM hk]; simp only [key_inj ha ht]
theorem Fw_upd {f : FL} (hk : kn f) {s t : List Int} (hs : s.length = 2) (ht : t.length = 2) (hst : s ≠ t) (h0 : lkM f (s ++ t) = 0) {a b : List Int} (ha : a.length = 2) (hb : b.length = 2) :
    Fw (updF f s t) a b = Fw f a b + (if a = s ∧ b = t then 1 else 0) - (if a = t ∧ b = s then 1 else 0) := by
  unfold Fw
  rw [updF_lk hk hs ht ha, updF_lk hk hs ht hb]
  by_cases h1 : a = s ∧ b = t
  · obtain ⟨rfl, rfl⟩ := h1
    rw [if_pos (⟨rfl, rfl⟩ : a = a ∧ b = b), if_neg (fun g : b = a ∧ a = b => hst g.2), if_neg (fun g : a = b ∧ b = a => hst g.1), if_pos (⟨rfl, rfl⟩ : b = b ∧ a = a), h0, if_pos (⟨rfl, rfl⟩ : a = a ∧ b = b), if_neg (fun g : a = b ∧ b = a => hst g.1)]
    by_cases h2 : lkM f (b ++ a) = 0
    · rw [if_pos h2, if_pos h2, h2]; rfl
    · rw [if_neg h2, if_neg h2]; simp [bz, h2]
  · by_cases h3 : a = t ∧ b = s
    · obtain ⟨rfl, rfl⟩ := h3
      rw [if_neg (fun g : a = b ∧ b = a => hst g.2), if_pos (⟨rfl, rfl⟩ : a = a ∧ b = b), if_pos (⟨rfl, rfl⟩ : b = b ∧ a = a), if_neg (fun g : b = a ∧ a = b => hst g.1), h0, if_neg (fun g : a = b ∧ b = a => hst g.2), if_pos (⟨rfl, rfl⟩ : a = a ∧ b = b)]
      by_cases h2 : lkM f (a ++ b) = 0
      · rw [if_pos h2, if_pos h2, h2]; rfl
      · rw [if_neg h2, if_neg h2]; simp [bz, h2]
    · rw [if_neg h1, if_neg h3, if_neg (fun g : b = s ∧ a = t => h3 ⟨g.2, g.1⟩), if_neg (fun g : b = t ∧ a = s => h1 ⟨g.2, g.1⟩), if_neg h1, if_neg h3]
      by_cases h2 : lkM f (t ++ s) = 0
      · rw [if_pos h2, if_pos h2]; omega
      · rw [if_neg h2, if_neg h2]; omega
open Classical in
/-- One more runs from s to t. -/
theorem Dv_move {D D' : List Int → List Int → Int} {s t : List Int} (hs : isC s) (ht : isC t) {u : List Int}
    (h : ∀ b, isC b → D' u b = D u b + (if u = s ∧ b = t then 1 else 0) - (if u = t ∧ b = s then 1 else 0)) :
    sgN (fun v => D' u (cl v)) 100 = sgN (fun v => D u (cl v)) 100 + (if u = s then 1 else 0) - (if u = t then 1 else 0) := by
  obtain ⟨ks, hks, rfl⟩ := hs
  obtain ⟨kt, hkt, rfl⟩ := ht
  have e1 : sgN (fun v => D' u (cl v)) 100 = sgN (fun v => (D u (cl v) + (if v = kt then (if u = cl ks then 1 else 0) else 0)) + - (if v = ks then (if u = cl kt then 1 else 0) else 0)) 100 := by
    refine sgN_congr 100 fun v hv => ?_
    rw [h _ ⟨v, hv, rfl⟩]
    by_cases h1 : v = kt
    · subst h1
      by_cases h2 : v = ks
      · subst h2; simp; omega
      · have h3 : ¬ cl v = cl ks := fun g => h2 (cl_inj g)
        simp [h2, h3]
    · have h3 : ¬ cl v = cl kt := fun g => h1 (cl_inj g)
      by_cases h2 : v = ks
      · subst h2; simp [h1, h3]; omega
      · have h4 : ¬ cl v = cl ks := fun g => h2 (cl_inj g)
        simp [h1, h2, h3, h4]
  rw [e1, sgN_add, sgN_neg, sgN_add, sgN_one, sgN_one, if_pos hkt, if_pos hks]
  omega
theorem Dv_upd {f : FL} (hk : kn f) {s t : List Int} (hs : isC s) (ht : isC t) (hst : s ≠ t) (h0 : lkM f (s ++ t) = 0) {u : List Int} (hu : isC u) :
    Dv (updF f s t) u = Dv f u + (if u = s then 1 else 0) - (if u = t then 1 else 0) := by
  unfold Dv
  have := Dv_move (D := Fw f) (D' := Fw (updF f s t)) hs ht (u := u) fun b hb => by
    rw [Fw_upd hk (isC_len hs) (isC_len ht) hst h0 (isC_len hu) (isC_len hb)]
  rw [this]
structure FlOk (nb : List Int → List (List Int)) (f : FL) : Prop where
  kn : kn f
  one : ∀ a b, isC a → isC b → lkM f (a ++ b) ≠ 0 → lkM f (b ++ a) = 0
  op : ∀ a b, isC a → isC b → lkM f (a ++ b) ≠ 0 → b ∈ nb a
theorem FlOk.upd {nb : List Int → List (List Int)} {f : FL} (h : FlOk nb f) {s t : List Int} (hs : isC s) (ht : isC t) (hst : s ≠ t) (h0 : lkM f (s ++ t) = 0) (hn : t ∈ nb s) : FlOk nb (updF f s t) where
  kn := by
    unfold updF
    split
    · exact kn_up h.kn _ _
    · exact kn_del h.kn _
  one := fun a b ha hb => by
    rw [updF_lk h.kn (isC_len hs) (isC_len ht) (isC_len ha), updF_lk h.kn (isC_len hs) (isC_len ht) (isC_len hb)]
    have hone := h.one a b ha hb
    by_cases h2 : lkM f (t ++ s) = 0
    · rw [if_pos h2, if_pos h2]
      by_cases h1 : a = s ∧ b = t
      · obtain ⟨rfl, rfl⟩ := h1
        intro _
        rw [if_neg (fun g : b = a ∧ a = b => hst g.2)]; exact h2
      · rw [if_neg h1]
        intro h3
        by_cases h4 : b = s ∧ a = t
        · obtain ⟨rfl, rfl⟩ := h4
          exact absurd h2 h3
        · rw [if_neg h4]; exact hone h3
    · rw [if_neg h2, if_neg h2]
      by_cases h1 : a = t ∧ b = s
      · rw [if_pos h1]; intro g; exact absurd rfl g
      · rw [if_neg h1]
        intro h3
        by_cases h4 : b = t ∧ a = s
        · rw [if_pos h4]
        · rw [if_neg h4]; exact hone h3
  op := fun a b ha hb => by
    rw [updF_lk h.kn (isC_len hs) (isC_len ht) (isC_len ha)]
    by_cases h2 : lkM f (t ++ s) = 0
    · rw [if_pos h2]
      by_cases h1 : a = s ∧ b = t
      · obtain ⟨rfl, rfl⟩ := h1
        exact fun _ => hn
      · rw [if_neg h1]; exact h.op a b ha hb
    · rw [if_neg h2]
      by_cases h1 : a = t ∧ b = s
      · rw [if_pos h1]; intro g; exact absurd rfl g
      · rw [if_neg h1]; exact h.op a b ha hb

/-! The push. -/
abbrev PR := Bool × FL × FL
def pushL (rec : FL → FL → List Int → PR) (s : List Int) : List (List Int) → FL → FL → PR
  | [], f, m => (false, f, m)
  | t :: ts, f, m => if lkM m t = 0 ∧ lkM f (s ++ t) = 0 then
      (if (rec f m t).1 = true then (true, updF (rec f m t).2.1 s t, (rec f m t).2.2) else pushL rec s ts (rec f m t).2.1 (rec f m t).2.2)
    else pushL rec s ts f m
def pushN (nb : List Int → List (List Int)) (G : List (List Int)) : Nat → FL → FL → List Int → PR
  | 0, f, m, _ => (false, f, m)
  | n + 1, f, m, s => if s ∈ G then (true, f, m) else pushL (pushN nb G n) s (nb s) f (upM m s 1)
def unK (m : FL) : Nat → Nat
  | 0 => 0
  | k + 1 => unK m k + if lkM m (cl k) = 0 then 1 else 0
def un (m : FL) : Nat := unK m 100
def grM (m m' : FL) : Prop := ∀ a, lkM m a ≠ 0 → lkM m' a ≠ 0
theorem grM_trans {m m1 m2 : FL} (h : grM m m1) (k : grM m1 m2) : grM m m2 := fun a ha => k a (h a ha)
theorem unK_mono {m m' : FL} (h : grM m m') : ∀ k, unK m' k ≤ unK m k
  | 0 => Nat.le_refl _
  | k + 1 => by
    have := unK_mono h k
    unfold unK
    by_cases h1 : lkM m (cl k) = 0
    · rw [if_pos h1]; split <;> omega
    · rw [if_neg h1, if_neg (h _ h1)]; omega
theorem un_mono {m m' : FL} (h : grM m m') : un m' ≤ un m := unK_mono h 100
theorem grM_up (m : FL) (s : List Int) : grM m (upM m s 1) := fun a ha => by
  rw [lkM_upM]; split
  · decide
  · exact ha
theorem unK_up {m : FL} {k : Nat} (h0 : lkM m (cl k) = 0) : ∀ n, k < n → unK (upM m (cl k) 1) n < unK m n
  | 0, h => by omega
  | n + 1, h => by
    unfold unK
    by_cases hk : k = n
    · subst hk
      have := unK_mono (grM_up m (cl k)) k
      rw [lkM_upM, if_pos rfl, if_pos h0, if_neg (by decide)]; omega
    · have := unK_up h0 n (by omega)
      have e : lkM (upM m (cl k) 1) (cl n) = lkM m (cl n) := by rw [lkM_upM, if_neg fun g => hk (cl_inj g).symm]
      rw [e]; omega
theorem un_up {m : FL} {s : List Int} (hs : isC s) (h0 : lkM m s = 0) : un (upM m s 1) < un m := by
  obtain ⟨k, hk, rfl⟩ := hs
  exact unK_up h0 100 hk

/-- Shut under what is free. -/
def shutF (nb : List Int → List (List Int)) (f : FL) (S : List Int → Prop) : Prop := ∀ a, isC a → S a → ∀ t, t ∈ nb a → lkM f (a ++ t) = 0 → S t
structure PushOk (nb : List Int → List (List Int)) (G : List (List Int)) (f m : FL) (s : List Int) (r : PR) : Prop where
  gr : grM m r.2.2
  yes : r.1 = true → (∃ g, g ∈ G ∧ isC g ∧ ∀ u, isC u → Dv r.2.1 u = Dv f u + (if u = s then 1 else 0) - (if u = g then 1 else 0)) ∧ FlOk nb r.2.1 ∧
    ∀ a b, isC a → isC b → lkM m a ≠ 0 → lkM r.2.1 (a ++ b) = lkM f (a ++ b) ∧ lkM r.2.1 (b ++ a) = lkM f (b ++ a)
  no : r.1 = false → r.2.1 = f ∧ lkM r.2.2 s ≠ 0 ∧ ∀ a, isC a → lkM m a = 0 → lkM r.2.2 a ≠ 0 → a ∉ G ∧ (∀ t, t ∈ nb a → lkM f (a ++ t) = 0 → lkM r.2.2 t ≠ 0) ∧
    ∀ S : List Int → Prop, S s → shutF nb f S → S a
/-- The loop over the cells beside. -/
structure LoopOk (nb : List Int → List (List Int)) (G : List (List Int)) (f m : FL) (s : List Int) (ts : List (List Int)) (r : PR) : Prop where
  gr : grM m r.2.2
  yes : r.1 = true → (∃ g, g ∈ G ∧ isC g ∧ ∀ u, isC u → Dv r.2.1 u = Dv f u + (if u = s then 1 else 0) - (if u = g then 1 else 0)) ∧ FlOk nb r.2.1 ∧
    ∀ a b, isC a → isC b → a ≠ s → lkM m a ≠ 0 → lkM r.2.1 (a ++ b) = lkM f (a ++ b) ∧ lkM r.2.1 (b ++ a) = lkM f (b ++ a)
  no : r.1 = false → r.2.1 = f ∧ (∀ t, t ∈ ts → lkM f (s ++ t) = 0 → lkM r.2.2 t ≠ 0) ∧ ∀ a, isC a → lkM m a = 0 → lkM r.2.2 a ≠ 0 → a ∉ G ∧ (∀ t, t ∈ nb a → lkM f (a ++ t) = 0 → lkM r.2.2 t ≠ 0) ∧
    ∀ S : List Int → Prop, S s → shutF nb f S → S a
theorem loop_ok {nb : List Int → List (List Int)} (hnb : ∀ a, isC a → ∀ t, t ∈ nb a → isC t ∧ t ≠ a) {G : List (List Int)} {rec : FL → FL → List Int → PR} {n : Nat}
    (hrec : ∀ f m t, isC t → FlOk nb f → lkM m t = 0 → un m < n → PushOk nb G f m t (rec f m t)) {s : List Int} (hs : isC s) :
    ∀ (ts : List (List Int)) (f m : FL), (∀ t, t ∈ ts → t ∈ nb s) → FlOk nb f → lkM m s ≠ 0 → un m < n → LoopOk nb G f m s ts (pushL rec s ts f m) := by
  intro ts
  induction ts with
  | nil =>
    intro f m _ hf hms hun
    refine ⟨fun a ha => ha, fun h => (by cases h), fun _ => ⟨rfl, fun t ht => (by cases ht), fun a _ h0 h1 => absurd h0 h1⟩⟩
  | cons t ts ih =>
    intro f m hts hf hms hun
    have htn := hts t List.mem_cons_self
    obtain ⟨htc, hne⟩ := hnb s hs t htn
    unfold pushL
    split
    case isFalse hc =>
      have := ih f m (fun x hx => hts x (List.mem_cons_of_mem _ hx)) hf hms hun
      refine ⟨this.gr, this.yes, fun h => ?_⟩
      obtain ⟨h1, h2, h3⟩ := this.no h
      refine ⟨h1, fun x hx hx0 => ?_, h3⟩
      rcases List.mem_cons.1 hx with rfl | hx
      · exact this.gr _ fun g => hc ⟨g, hx0⟩
      · exact h2 x hx hx0
    case isTrue hc =>
      obtain ⟨hc1, hc2⟩ := hc
      have hP := hrec f m t htc hf hc1 hun
      generalize rec f m t = r at *
      split
      · rename_i hr
        obtain ⟨⟨g, hg, hgc, hD⟩, hF, hU⟩ := hP.yes hr
        have h0 : lkM r.2.1 (s ++ t) = 0 := by rw [(hU s t hs htc hms).1]; exact hc2
        refine ⟨hP.gr, fun _ => ⟨⟨g, hg, hgc, fun u hu => ?_⟩, hF.upd hs htc (fun e => hne e.symm) h0 htn, fun a b ha hb has hma => ?_⟩, fun h => (by cases h)⟩
        · show Dv (updF r.2.1 s t) u = _
          rw [Dv_upd hF.kn hs htc (fun e => hne e.symm) h0 hu, hD u hu]
          omega
        · show lkM (updF r.2.1 s t) (a ++ b) = _ ∧ lkM (updF r.2.1 s t) (b ++ a) = _
          have hat : a ≠ t := fun e => hma (by rw [e]; exact hc1)
          rw [updF_lk hF.kn (isC_len hs) (isC_len htc) (isC_len ha), updF_lk hF.kn (isC_len hs) (isC_len htc) (isC_len hb),
            if_neg (fun g : a = s ∧ b = t => has g.1), if_neg (fun g : a = t ∧ b = s => hat g.1), if_neg (fun g : b = s ∧ a = t => hat g.2), if_neg (fun g : b = t ∧ a = s => has g.2), ite_self, ite_self]
          exact hU a b ha hb hma
      · rename_i hr
        have hr : r.1 = false := by cases h : r.1 with | true => exact absurd h hr | false => rfl
        obtain ⟨h1, h2, h3⟩ := hP.no hr
        rw [h1]
        have hL := ih f r.2.2 (fun x hx => hts x (List.mem_cons_of_mem _ hx)) hf (hP.gr _ hms) (Nat.lt_of_le_of_lt (un_mono hP.gr) hun)
        refine ⟨grM_trans hP.gr hL.gr, fun h => ?_, fun h => ?_⟩
        · obtain ⟨q1, q2, q3⟩ := hL.yes h
          exact ⟨q1, q2, fun a b ha hb has hma => q3 a b ha hb has (hP.gr _ hma)⟩
        · obtain ⟨q1, q2, q3⟩ := hL.no h
          refine ⟨q1, fun x hx hx0 => ?_, fun a ha ha0 ha1 => ?_⟩
          · rcases List.mem_cons.1 hx with rfl | hx
            · exact hL.gr _ h2
            · exact q2 x hx hx0
          · by_cases hm : lkM r.2.2 a = 0
            · exact q3 a ha hm ha1
            · obtain ⟨p1, p2, p3⟩ := h3 a ha ha0 hm
              exact ⟨p1, fun x hx hx0 => hL.gr _ (p2 x hx hx0), fun S hSs hS => p3 S (hS s hs hSs t htn hc2) hS⟩
theorem push_ok {nb : List Int → List (List Int)} (hnb : ∀ a, isC a → ∀ t, t ∈ nb a → isC t ∧ t ≠ a) {G : List (List Int)} :
    ∀ (n : Nat) (f m : FL) (s : List Int), isC s → FlOk nb f → lkM m s = 0 → un m < n → PushOk nb G f m s (pushN nb G n f m s) := by
  intro n
  induction n with
  | zero => intro f m s _ _ _ h; omega
  | succ n ih =>
    intro f m s hs hf h0 hun
    unfold pushN
    split
    · rename_i hg
      refine ⟨fun a ha => ha, fun _ => ⟨⟨s, hg, hs, fun u hu => ?_⟩, hf, fun a b _ _ _ => ⟨rfl, rfl⟩⟩, fun h => (by cases h)⟩
      show Dv f u = _
      omega
    · rename_i hg
      have hup := un_up hs h0
      have hL := loop_ok hnb (G := G) (n := n) (fun f m t ht hf h0 hu => ih f m t ht hf h0 hu) hs (nb s) f (upM m s 1) (fun t ht => ht) hf (by rw [lkM_upM, if_pos rfl]; decide) (by omega)
      refine ⟨grM_trans (grM_up m s) hL.gr, fun h => ?_, fun h => ?_⟩
      · obtain ⟨q1, q2, q3⟩ := hL.yes h
        refine ⟨q1, q2, fun a b ha hb hma => q3 a b ha hb (fun e => hma (by rw [e]; exact h0)) (grM_up m s _ hma)⟩
      · obtain ⟨q1, q2, q3⟩ := hL.no h
        refine ⟨q1, hL.gr _ (by rw [lkM_upM, if_pos rfl]; decide), fun a ha ha0 ha1 => ?_⟩
        by_cases e : a = s
        · subst e
          exact ⟨hg, q2, fun S hS _ => hS⟩
        · exact q3 a ha (by rw [lkM_upM, if_neg e]; exact ha0) ha1

/-! A round: a push from each cell of the source that is not met. -/
def sendN (nb : List Int → List (List Int)) (G : List (List Int)) (n : Nat) : List (List Int) → FL → FL → PR
  | [], f, m => (false, f, m)
  | s :: ss, f, m => if lkM m s = 0 then
      (if (pushN nb G n f m s).1 = true then (true, (pushN nb G n f m s).2.1, (pushN nb G n f m s).2.2) else sendN nb G n ss (pushN nb G n f m s).2.1 (pushN nb G n f m s).2.2)
    else sendN nb G n ss f m
structure SendOk (nb : List Int → List (List Int)) (A G : List (List Int)) (f m : FL) (ss : List (List Int)) (r : PR) : Prop where
  gr : grM m r.2.2
  yes : r.1 = true → (∃ s g, s ∈ A ∧ g ∈ G ∧ isC s ∧ isC g ∧ ∀ u, isC u → Dv r.2.1 u = Dv f u + (if u = s then 1 else 0) - (if u = g then 1 else 0)) ∧ FlOk nb r.2.1
  no : r.1 = false → r.2.1 = f ∧ (∀ s, s ∈ ss → lkM r.2.2 s ≠ 0) ∧ ∀ a, isC a → lkM m a = 0 → lkM r.2.2 a ≠ 0 → a ∉ G ∧ (∀ t, t ∈ nb a → lkM f (a ++ t) = 0 → lkM r.2.2 t ≠ 0) ∧
    ∀ S : List Int → Prop, (∀ s, s ∈ A → S s) → shutF nb f S → S a
theorem send_ok {nb : List Int → List (List Int)} (hnb : ∀ a, isC a → ∀ t, t ∈ nb a → isC t ∧ t ≠ a) {A G : List (List Int)} {n : Nat} (hA : ∀ s, s ∈ A → isC s) :
    ∀ (ss : List (List Int)) (f m : FL), (∀ t, t ∈ ss → t ∈ A) → FlOk nb f → un m < n → SendOk nb A G f m ss (sendN nb G n ss f m) := by
  intro ss
  induction ss with
  | nil =>
    intro f m _ hf hun
    exact ⟨fun a ha => ha, fun h => (by cases h), fun _ => ⟨rfl, fun t ht => (by cases ht), fun a _ h0 h1 => absurd h0 h1⟩⟩
  | cons s ss ih =>
    intro f m hss hf hun
    have hsA := hss s List.mem_cons_self
    have hs := hA s hsA
    unfold sendN
    split
    case isFalse hc =>
      have := ih f m (fun x hx => hss x (List.mem_cons_of_mem _ hx)) hf hun
      refine ⟨this.gr, this.yes, fun h => ?_⟩
      obtain ⟨h1, h2, h3⟩ := this.no h
      refine ⟨h1, fun x hx => ?_, h3⟩
      rcases List.mem_cons.1 hx with rfl | hx
      · exact this.gr _ hc
      · exact h2 x hx
    case isTrue hc =>
      have hP := push_ok hnb (G := G) n f m s hs hf hc hun
      generalize pushN nb G n f m s = r at *
      split
      · rename_i hr
        obtain ⟨⟨g, hg, hgc, hD⟩, hF, -⟩ := hP.yes hr
        exact ⟨hP.gr, fun _ => ⟨⟨s, g, hsA, hg, hs, hgc, hD⟩, hF⟩, fun h => (by cases h)⟩
      · rename_i hr
        have hr : r.1 = false := by cases h : r.1 with | true => exact absurd h hr | false => rfl
        obtain ⟨h1, h2, h3⟩ := hP.no hr
        rw [h1]
        have hL := ih f r.2.2 (fun x hx => hss x (List.mem_cons_of_mem _ hx)) hf (Nat.lt_of_le_of_lt (un_mono hP.gr) hun)
        refine ⟨grM_trans hP.gr hL.gr, hL.yes, fun h => ?_⟩
        obtain ⟨q1, q2, q3⟩ := hL.no h
        refine ⟨q1, fun x hx => ?_, fun a ha ha0 ha1 => ?_⟩
        · rcases List.mem_cons.1 hx with rfl | hx
          · exact hL.gr _ h2
          · exact q2 x hx
        · by_cases hm : lkM r.2.2 a = 0
          · exact q3 a ha hm ha1
          · obtain ⟨p1, p2, p3⟩ := h3 a ha ha0 hm
            exact ⟨p1, fun x hx hx0 => hL.gr _ (p2 x hx hx0), fun S hSA hS => p3 S (hSA s hsA) hS⟩
end Go.Proofs.YtjbgjgkogmlpfaaGreat.Fl

namespace Go.Proofs.YtjbgjgkogmlpfaaGreat.Fl
open Go Go.Eng
set_option linter.unusedSimpArgs false
set_option linter.unusedVariables false
set_option maxRecDepth 100000
set_option maxHeartbeats 4000000

theorem sgN_const {f : Nat → Int} {K : Int} : ∀ n, (∀ i, i < n → f i ≤ K) → sgN f n ≤ n * K
  | 0, _ => by show (0 : Int) ≤ ((0 : Nat) : Int) * K; simp
  | n + 1, h => by
    have h1 := sgN_const n fun i hi => h i (by omega)
    have h2 := h n (by omega)
    have e : ((n + 1 : Nat) : Int) * K = n * K + K := by rw [Int.natCast_add, Int.add_mul]; simp
    show sgN f n + f n ≤ _
    rw [e]; omega
open Classical in
theorem cut_le {n : Nat} {c : Nat → Nat → Int} (hc : ∀ u v, c u v ≤ 1) (S : Nat → Prop) : cutF' n S c ≤ n * n := by
  unfold cutF'
  have h : ∀ u, u < n → sgN (fun v => if S u ∧ ¬ S v then c u v else 0) n ≤ n := fun u _ => by
    have := sgN_const (f := fun v => if S u ∧ ¬ S v then c u v else 0) (K := 1) n fun v _ => by
      split
      · exact hc u v
      · decide
    omega
  exact sgN_const n h
/-- The sides between two cells that are open. -/
def capI (nb : List Int → List (List Int)) (u v : Nat) : Int := if cl v ∈ nb (cl u) then 1 else 0
theorem capI_le (nb : List Int → List (List Int)) (u v : Nat) : capI nb u v ≤ 1 := by unfold capI; split <;> decide
def inL (A : List (List Int)) (k : Nat) : Prop := cl k ∈ A
/-- A flow, whatever way it is kept. -/
def Flw (nb : List Int → List (List Int)) (A G : List (List Int)) (F : Nat → Nat → Int) : Prop := IsFlow 100 (capI nb) (inL A) (inL G) F
def NearF (nb : List Int → List (List Int)) (A G : List (List Int)) (F : Nat → Nat → Int) (R : Nat → Prop) : Prop := IsNear 100 (capI nb) (inL A) (inL G) F R
def nearP (nb : List Int → List (List Int)) (A G : List (List Int)) (s : List Int) : Prop := ∃ F R k, Flw nb A G F ∧ NearF nb A G F R ∧ k < 100 ∧ s = cl k ∧ R k
theorem nearP_iff {nb : List Int → List (List Int)} {A G : List (List Int)} {F : Nat → Nat → Int} {R : Nat → Prop} (hF : Flw nb A G F) (hR : NearF nb A G F R) {k : Nat} (hk : k < 100) : nearP nb A G (cl k) ↔ R k := by
  constructor
  · rintro ⟨F', R', k', hF', hR', hk', e, h⟩
    obtain rfl := cl_inj e
    exact (near_same hF hF' hR hR' k hk).1 h
  · exact fun h => ⟨F, R, k, hF, hR, hk, rfl, h⟩
open Classical in
noncomputable def nearB (nb : List Int → List (List Int)) (A G : List (List Int)) (s : List Int) : Bool := decide (nearP nb A G s)
/-- How much runs. -/
noncomputable def valL (A : List (List Int)) (F : Nat → Nat → Int) : Int := valF 100 (inL A) F
theorem valL_le {nb : List Int → List (List Int)} {A G : List (List Int)} {F : Nat → Nat → Int} (hF : Flw nb A G F) (hd : ∀ s, s ∈ A → s ∉ G) : valL A F ≤ 10000 := by
  have h1 := val_le hF (S := fun k => ¬ inL G k) fun u _ => ⟨fun h => hd _ h, fun h => h⟩
  have h2 := cut_le (n := 100) (c := capI nb) (capI_le nb) fun k => ¬ inL G k
  have h3 : ((100 : Nat) : Int) * ((100 : Nat) : Int) = 10000 := rfl
  unfold valL
  omega
open Classical in
theorem valL_up {A G : List (List Int)} {F F' : Nat → Nat → Int} (hd : ∀ s, s ∈ A → s ∉ G) {s g : List Int} (hs : s ∈ A) (hg : g ∈ G) (hsc : isC s)
    (h : ∀ u, u < 100 → sgN (F' u) 100 = sgN (F u) 100 + (if cl u = s then 1 else 0) - (if cl u = g then 1 else 0)) : valL A F' = valL A F + 1 := by
  unfold valL valF
  obtain ⟨ks, hks, rfl⟩ := hsc
  have e : ∀ u, u < 100 → (if inL A u then sgN (F' u) 100 else 0) = (if inL A u then sgN (F u) 100 else 0) + (if u = ks then 1 else 0) := fun u hu => by
    by_cases ha : inL A u
    · rw [if_pos ha, if_pos ha, h u hu]
      have h1 : ¬ cl u = g := fun e => hd _ ha (by rw [e]; exact hg)
      rw [if_neg h1]
      by_cases h2 : u = ks
      · subst h2; rw [if_pos rfl, if_pos rfl]; omega
      · rw [if_neg h2, if_neg fun e => h2 (cl_inj e)]; omega
    · rw [if_neg ha, if_neg ha, if_neg fun e => ha (by rw [e]; exact hs)]; rfl
  rw [sgN_congr 100 e, sgN_add, sgN_one, if_pos hks]

/-! The program. -/
def matF (f : FL) (u v : Nat) : Int := Fw f (cl u) (cl v)
structure FlInv (nb : List Int → List (List Int)) (A G : List (List Int)) (f : FL) : Prop where
  ok : FlOk nb f
  cons : ∀ u, isC u → u ∉ A → u ∉ G → Dv f u = 0
theorem FlInv.nil (nb : List Int → List (List Int)) (A G : List (List Int)) : FlInv nb A G [] where
  ok := ⟨List.nodup_nil, fun a b _ _ h => absurd rfl h, fun a b _ _ h => absurd rfl h⟩
  cons := fun u _ _ _ => by
    unfold Dv
    have : (fun v => Fw [] u (cl v)) = fun _ => 0 := by funext v; rfl
    rw [this]; exact sgN_zero 100
theorem FlInv.flow {nb : List Int → List (List Int)} {A G : List (List Int)} {f : FL} (h : FlInv nb A G f) : Flw nb A G (matF f) where
  anti := fun u v => by unfold matF Fw; omega
  cap := fun u v hu hv => by
    unfold matF Fw capI bz
    have h1 := h.ok.op (cl u) (cl v) ⟨u, hu, rfl⟩ ⟨v, hv, rfl⟩
    by_cases h2 : lkM f (cl u ++ cl v) = 0
    · rw [if_pos h2]
      split <;> split <;> omega
    · rw [if_neg h2, if_pos (h1 h2)]
      split <;> omega
  cons := fun u hu ha hg => h.cons _ ⟨u, hu, rfl⟩ ha hg
theorem FlInv.step {nb : List Int → List (List Int)} {A G : List (List Int)} {f m : FL} {ss : List (List Int)} {r : PR} (h : FlInv nb A G f) (hs : SendOk nb A G f m ss r) (hr : r.1 = true) (hd : ∀ s, s ∈ A → s ∉ G) :
    FlInv nb A G r.2.1 ∧ valL A (matF r.2.1) = valL A (matF f) + 1 := by
  obtain ⟨⟨s, g, hsA, hg, hsc, hgc, hD⟩, hF⟩ := hs.yes hr
  refine ⟨⟨hF, fun u hu ha hgu => ?_⟩, valL_up hd hsA hg hsc fun u hu => hD _ ⟨u, hu, rfl⟩⟩
  rw [hD u hu, h.cons u hu ha hgu, if_neg (fun e => ha (by rw [e]; exact hsA)), if_neg (fun e => hgu (by rw [e]; exact hg))]; rfl
theorem FlInv.near {nb : List Int → List (List Int)} {A G : List (List Int)} {f : FL} {r : PR} (hnb : ∀ a, isC a → ∀ t, t ∈ nb a → isC t ∧ t ≠ a) (hsy : ∀ a b, isC a → isC b → b ∈ nb a → a ∈ nb b) (hA : ∀ s, s ∈ A → isC s) (h : FlInv nb A G f) (hs : SendOk nb A G f [] A r) (hr : r.1 = false) :
    NearF nb A G (matF f) (fun k => lkM r.2.2 (cl k) ≠ 0) := by
  obtain ⟨h1, h2, h3⟩ := hs.no hr
  have free : ∀ u v, u < 100 → v < 100 → (matF f u v < capI nb u v ↔ cl v ∈ nb (cl u) ∧ lkM f (cl u ++ cl v) = 0) := fun u v hu hv => by
    unfold matF Fw capI bz
    have hop := h.ok.op (cl u) (cl v) ⟨u, hu, rfl⟩ ⟨v, hv, rfl⟩
    have hone := h.ok.one (cl u) (cl v) ⟨u, hu, rfl⟩ ⟨v, hv, rfl⟩
    have hrev := h.ok.op (cl v) (cl u) ⟨v, hv, rfl⟩ ⟨u, hu, rfl⟩
    by_cases e1 : cl v ∈ nb (cl u)
    · rw [if_pos e1]
      by_cases e2 : lkM f (cl u ++ cl v) = 0
      · rw [if_pos e2]
        refine ⟨fun _ => ⟨e1, e2⟩, fun _ => ?_⟩
        split <;> omega
      · rw [if_neg e2, if_pos (hone e2)]
        exact ⟨fun g => by omega, fun g => absurd g.2 e2⟩
    · rw [if_neg e1]
      have e2 : lkM f (cl u ++ cl v) = 0 := Classical.byContradiction fun g => e1 (hop g)
      have e3 : lkM f (cl v ++ cl u) = 0 := Classical.byContradiction fun g => e1 (hsy _ _ ⟨v, hv, rfl⟩ ⟨u, hu, rfl⟩ (hrev g))
      rw [if_pos e2, if_pos e3]
      exact ⟨fun g => by omega, fun g => absurd g.1 e1⟩
  refine ⟨fun u hu => ⟨fun ha => h2 _ ha, fun hm hg => (h3 _ ⟨u, hu, rfl⟩ rfl hm).1 hg⟩, fun u v hu hv hm hlt => ?_, fun S hSA hS u hu hm => ?_⟩
  · obtain ⟨q1, q2⟩ := (free u v hu hv).1 hlt
    exact (h3 _ ⟨u, hu, rfl⟩ rfl hm).2.1 _ q1 q2
  · have := (h3 _ ⟨u, hu, rfl⟩ rfl hm).2.2 (fun a => ∃ k, k < 100 ∧ a = cl k ∧ S k) (fun s hs => by
      obtain ⟨k, hk, rfl⟩ := hA s hs
      exact ⟨k, hk, rfl, hSA k hk hs⟩) (fun a ha hSa t ht h0 => by
      obtain ⟨k, hk, rfl, hSk⟩ := hSa
      obtain ⟨⟨kt, hkt, rfl⟩, -⟩ := hnb _ ⟨k, hk, rfl⟩ t ht
      exact ⟨kt, hkt, rfl, hS k kt hk hkt hSk ((free k kt hk hkt).2 ⟨ht, h0⟩)⟩)
    obtain ⟨k, hk, e, hSk⟩ := this
    obtain rfl := cl_inj e
    exact hSk
end Go.Proofs.YtjbgjgkogmlpfaaGreat.Fl

namespace Go.Proofs.YtjbgjgkogmlpfaaGreat.Fl
open Go Go.Eng
set_option linter.unusedSimpArgs false
set_option linter.unusedVariables false
set_option maxRecDepth 100000
set_option maxHeartbeats 4000000

def ix (s : List Int) : Nat := (s.getD 1 0).toNat * 10 + (s.getD 0 0).toNat
def ah (s : List Int) (d : Int) : List Int :=
  if d = 0 then [s.getD 0 0, s.getD 1 0 - 1] else if d = 1 then [s.getD 0 0 + 1, s.getD 1 0] else if d = 2 then [s.getD 0 0, s.getD 1 0 + 1] else [s.getD 0 0 - 1, s.getD 1 0]
theorem ix_cl {k : Nat} (hk : k < 100) : ix (cl k) = k := by
  show (((k / 10 : Nat) : Int)).toNat * 10 + (((k % 10 : Nat) : Int)).toNat = k
  omega
theorem cl_ix {s : List Int} (h : isC s) : cl (ix s) = s ∧ ix s < 100 := by
  obtain ⟨k, hk, rfl⟩ := h
  rw [ix_cl hk]; exact ⟨rfl, hk⟩
theorem ix_inj {s t : List Int} (hs : isC s) (ht : isC t) (h : ix s = ix t) : s = t := by
  rw [← (cl_ix hs).1, ← (cl_ix ht).1, h]
def fAt (fl : List Int) (s : List Int) (d : Int) : Int :=
  if d = 0 then - fl.getD (100 + ix (ah s 0)) 0 else if d = 1 then fl.getD (ix s) 0 else if d = 2 then fl.getD (100 + ix s) 0 else - fl.getD (ix (ah s 3)) 0
def fAdd (fl : List Int) (s : List Int) (d : Int) : List Int :=
  if d = 0 then fl.set (100 + ix (ah s 0)) (fl.getD (100 + ix (ah s 0)) 0 - 1) else if d = 1 then fl.set (ix s) (fl.getD (ix s) 0 + 1)
  else if d = 2 then fl.set (100 + ix s) (fl.getD (100 + ix s) 0 + 1) else fl.set (ix (ah s 3)) (fl.getD (ix (ah s 3)) 0 - 1)
theorem fAdd_len (fl : List Int) (s : List Int) (d : Int) : (fAdd fl s d).length = fl.length := by
  unfold fAdd; split <;> (try split) <;> (try split) <;> exact List.length_set
def gE (fl : List Int) (u v : Nat) : Int := (if v = u + 1 ∧ u % 10 ≠ 9 then fl.getD u 0 else 0) + (if v = u + 10 then fl.getD (100 + u) 0 else 0)
def matT (fl : List Int) (u v : Nat) : Int := gE fl u v - gE fl v u
/-- What lies on a side. -/
theorem ah_cl {u v : Nat} {d : Int} (hd : 0 ≤ d ∧ d < 4) (hu : u < 100) (hv : v < 100) (h : ah (cl u) d = cl v) :
    (d = 0 ∧ u = v + 10) ∨ (d = 1 ∧ v = u + 1 ∧ u % 10 ≠ 9) ∨ (d = 2 ∧ v = u + 10) ∨ (d = 3 ∧ u = v + 1 ∧ v % 10 ≠ 9) := by
  unfold ah cl at h
  have hc : d = 0 ∨ d = 1 ∨ d = 2 ∨ d = 3 := by omega
  rcases hc with rfl | rfl | rfl | rfl
  · simp only [if_pos, List.getD_cons_zero, List.getD_cons_succ, List.cons.injEq, and_true] at h
    omega
  · rw [if_neg (by decide), if_pos rfl] at h
    simp only [List.getD_cons_zero, List.getD_cons_succ, List.cons.injEq, and_true] at h
    omega
  · rw [if_neg (by decide), if_neg (by decide), if_pos rfl] at h
    simp only [List.getD_cons_zero, List.getD_cons_succ, List.cons.injEq, and_true] at h
    omega
  · rw [if_neg (by decide), if_neg (by decide), if_neg (by decide)] at h
    simp only [List.getD_cons_zero, List.getD_cons_succ, List.cons.injEq, and_true] at h
    omega
theorem fAt_mat {fl : List Int} {u v : Nat} {d : Int} (hd : 0 ≤ d ∧ d < 4) (hu : u < 100) (hv : v < 100) (h : ah (cl u) d = cl v) : fAt fl (cl u) d = matT fl u v := by
  have hx := ix_cl hu
  have hy := ix_cl hv
  rcases ah_cl hd hu hv h with ⟨rfl, e⟩ | ⟨rfl, e, e'⟩ | ⟨rfl, e⟩ | ⟨rfl, e, e'⟩
  · unfold fAt matT gE
    rw [if_pos rfl, h, hy, if_neg (by omega), if_neg (by omega), if_neg (by omega), if_pos (by omega)]; omega
  · unfold fAt matT gE
    rw [if_neg (by decide), if_pos rfl, hx, if_pos ⟨e, e'⟩, if_neg (by omega), if_neg (by omega), if_neg (by omega)]; omega
  · unfold fAt matT gE
    rw [if_neg (by decide), if_neg (by decide), if_pos rfl, hx, if_neg (by omega), if_pos e, if_neg (by omega), if_neg (by omega)]; omega
  · unfold fAt matT gE
    rw [if_neg (by decide), if_neg (by decide), if_neg (by decide), h, hy, if_neg (by omega), if_neg (by omega), if_pos ⟨e, e'⟩, if_neg (by omega)]; omega
theorem set_at {l : List Int} {i j : Nat} {v : Int} (hj : j < l.length) : (l.set i v).getD j 0 = if i = j then v else l.getD j 0 := by
  rw [List.getD_eq_getElem?_getD, List.getElem?_set, List.getD_eq_getElem?_getD]
  by_cases h : i = j
  · subst h; rw [if_pos rfl, if_pos hj, if_pos rfl]; rfl
  · rw [if_neg h, if_neg h]
theorem gE_e {fl : List Int} (hl : fl.length = 200) {u : Nat} (hu : u < 100) (x : Int) {a b : Nat} (ha : a < 100) : gE (fl.set u x) a b = gE fl a b + (if a = u ∧ b = u + 1 ∧ u % 10 ≠ 9 then x - fl.getD u 0 else 0) := by
  unfold gE
  rw [set_at (by omega), set_at (by omega), if_neg (show ¬ u = 100 + a by omega)]
  by_cases h : u = a
  · subst h
    rw [if_pos rfl]
    (repeat' split) <;> omega
  · rw [if_neg h, if_neg fun g : a = u ∧ b = u + 1 ∧ u % 10 ≠ 9 => h g.1.symm]; omega
theorem gE_s {fl : List Int} (hl : fl.length = 200) {u : Nat} (hu : u < 100) (x : Int) {a b : Nat} (ha : a < 100) : gE (fl.set (100 + u) x) a b = gE fl a b + (if a = u ∧ b = u + 10 then x - fl.getD (100 + u) 0 else 0) := by
  unfold gE
  rw [set_at (by omega), set_at (by omega), if_neg (show ¬ 100 + u = a by omega)]
  by_cases h : u = a
  · subst h
    rw [if_pos rfl]
    (repeat' split) <;> omega
  · rw [if_neg (show ¬ 100 + u = 100 + a by omega), if_neg fun g : a = u ∧ b = u + 10 => h g.1.symm]; omega
theorem fAdd_mat {fl : List Int} (hl : fl.length = 200) {u v : Nat} {d : Int} (hd : 0 ≤ d ∧ d < 4) (hu : u < 100) (hv : v < 100) (h : ah (cl u) d = cl v) {a b : Nat} (ha : a < 100) (hb : b < 100) :
    matT (fAdd fl (cl u) d) a b = matT fl a b + (if a = u ∧ b = v then 1 else 0) - (if a = v ∧ b = u then 1 else 0) := by
  have hx := ix_cl hu
  have hy := ix_cl hv
  unfold matT
  rcases ah_cl hd hu hv h with ⟨rfl, e⟩ | ⟨rfl, e, e'⟩ | ⟨rfl, e⟩ | ⟨rfl, e, e'⟩
  · have ef : fAdd fl (cl u) 0 = fl.set (100 + v) (fl.getD (100 + v) 0 - 1) := by unfold fAdd; rw [if_pos rfl, h, hy]
    rw [ef, gE_s hl hv _ ha, gE_s hl hv _ hb]
    (repeat' split) <;> omega
  · have ef : fAdd fl (cl u) 1 = fl.set u (fl.getD u 0 + 1) := by unfold fAdd; rw [if_neg (by decide), if_pos rfl, hx]
    rw [ef, gE_e hl hu _ ha, gE_e hl hu _ hb]
    (repeat' split) <;> omega
  · have ef : fAdd fl (cl u) 2 = fl.set (100 + u) (fl.getD (100 + u) 0 + 1) := by unfold fAdd; rw [if_neg (by decide), if_neg (by decide), if_pos rfl, hx]
    rw [ef, gE_s hl hu _ ha, gE_s hl hu _ hb]
    (repeat' split) <;> omega
  · have ef : fAdd fl (cl u) 3 = fl.set v (fl.getD v 0 - 1) := by unfold fAdd; rw [if_neg (by decide), if_neg (by decide), if_neg (by decide), h, hy]
    rw [ef, gE_e hl hv _ ha, gE_e hl hv _ hb]
    (repeat' split) <;> omega
theorem sum_move {F F' : Nat → Nat → Int} {ks kt u : Nat} (hs : ks < 100) (ht : kt < 100)
    (h : ∀ v, v < 100 → F' u v = F u v + (if u = ks ∧ v = kt then 1 else 0) - (if u = kt ∧ v = ks then 1 else 0)) :
    sgN (F' u) 100 = sgN (F u) 100 + (if u = ks then 1 else 0) - (if u = kt then 1 else 0) := by
  have e1 : sgN (F' u) 100 = sgN (fun v => (F u v + (if v = kt then (if u = ks then 1 else 0) else 0)) + - (if v = ks then (if u = kt then 1 else 0) else 0)) 100 :=
    sgN_congr 100 fun v hv => by
      rw [h v hv]
      (repeat' split) <;> omega
  rw [e1, sgN_add, sgN_neg, sgN_add, sgN_one, sgN_one, if_pos ht, if_pos hs]
  omega
end Go.Proofs.YtjbgjgkogmlpfaaGreat.Fl

namespace Go.Proofs.YtjbgjgkogmlpfaaGreat.Fl
open Go Go.Eng
set_option linter.unusedSimpArgs false
set_option linter.unusedVariables false
set_option maxRecDepth 100000
set_option maxHeartbeats 4000000

/-- Seen, by which side, queue. -/
abbrev BS := List Int × List Int × List (List Int)
def sideS (go : List Int → Int → Bool) (fl : List Int) (now : List Int) (st : BS) (d : Int) : BS :=
  if go now d = true ∧ st.1.getD (ix (ah now d)) 0 = 0 ∧ ¬ 0 < fAt fl now d then (st.1.set (ix (ah now d)) 1, st.2.1.set (ix (ah now d)) ((d + 2) % 4), st.2.2 ++ [ah now d]) else st
def sidesS (go : List Int → Int → Bool) (fl : List Int) (now : List Int) (st : BS) : Nat → BS
  | 0 => st
  | d + 1 => sideS go fl now (sidesS go fl now st d) d
def backF (by' : List Int) : Nat → List Int → List Int → List Int
  | 0, fl, _ => fl
  | n + 1, fl, now => if by'.getD (ix now) 0 < 0 then fl else backF by' n (fAdd fl (ah now (by'.getD (ix now) 0)) ((by'.getD (ix now) 0 + 2) % 4)) (ah now (by'.getD (ix now) 0))
def reachN (go : List Int → Int → Bool) (B fl : List Int) : Nat → Nat → BS → List Int × List Int × Bool
  | 0, _, st => (fl, st.1, false)
  | n + 1, i, st => if i < st.2.2.length then
      (if B.getD (ix (st.2.2.getD i [])) 0 ≠ 0 then (backF st.2.1 100 fl (st.2.2.getD i []), st.1, true) else reachN go B fl n (i + 1) (sidesS go fl (st.2.2.getD i []) st 4))
    else (fl, st.1, false)

structure GoOk (nb : List Int → List (List Int)) (go : List Int → Int → Bool) : Prop where
  step : ∀ s, isC s → ∀ d : Int, 0 ≤ d → d < 4 → go s d = true → isC (ah s d)
  back : ∀ s, isC s → ∀ d : Int, 0 ≤ d → d < 4 → go s d = true → go (ah s d) ((d + 2) % 4) = true ∧ ah (ah s d) ((d + 2) % 4) = s
  nb : ∀ s, isC s → ∀ t, t ∈ nb s ↔ ∃ d : Int, 0 ≤ d ∧ d < 4 ∧ go s d = true ∧ t = ah s d
structure BOk (go : List Int → Int → Bool) (A : List (List Int)) (fl : List Int) (st : BS) : Prop where
  l1 : st.1.length = 100
  l2 : st.2.1.length = 100
  cells : ∀ s, s ∈ st.2.2 → isC s
  nd : st.2.2.Nodup
  bit : ∀ k, k < 100 → st.1.getD k 0 = 0 ∨ st.1.getD k 0 = 1
  seen : ∀ k, k < 100 → (st.1.getD k 0 ≠ 0 ↔ cl k ∈ st.2.2)
  par : ∀ j, j < st.2.2.length → (st.2.1.getD (ix (st.2.2.getD j [])) 0 = -1 ∧ st.2.2.getD j [] ∈ A) ∨
    ∃ j', j' < j ∧ 0 ≤ st.2.1.getD (ix (st.2.2.getD j [])) 0 ∧ st.2.1.getD (ix (st.2.2.getD j [])) 0 < 4 ∧ ah (st.2.2.getD j []) (st.2.1.getD (ix (st.2.2.getD j [])) 0) = st.2.2.getD j' [] ∧
      go (st.2.2.getD j' []) ((st.2.1.getD (ix (st.2.2.getD j [])) 0 + 2) % 4) = true ∧ ah (st.2.2.getD j' []) ((st.2.1.getD (ix (st.2.2.getD j [])) 0 + 2) % 4) = st.2.2.getD j [] ∧
      fAt fl (st.2.2.getD j' []) ((st.2.1.getD (ix (st.2.2.getD j [])) 0 + 2) % 4) ≤ 0
  least : ∀ S : List Int → Prop, (∀ s, s ∈ A → S s) → (∀ s, isC s → S s → ∀ d : Int, 0 ≤ d → d < 4 → go s d = true → fAt fl s d ≤ 0 → S (ah s d)) → ∀ s, s ∈ st.2.2 → S s
theorem app_get {l : List (List Int)} {x : List Int} {j : Nat} (h : j < l.length) : (l ++ [x]).getD j [] = l.getD j [] := by
  rw [List.getD_eq_getElem?_getD, List.getElem?_append_left h, List.getD_eq_getElem?_getD]
theorem app_last {l : List (List Int)} {x : List Int} : (l ++ [x]).getD l.length [] = x := by
  rw [List.getD_eq_getElem?_getD, List.getElem?_append_right (Nat.le_refl _), Nat.sub_self]; rfl
theorem get_mem {l : List (List Int)} {j : Nat} (h : j < l.length) : l.getD j [] ∈ l := by
  rw [List.getD_eq_getElem?_getD, List.getElem?_eq_getElem h]; exact List.getElem_mem h
theorem two_mod {d : Int} (h0 : 0 ≤ d) (h4 : d < 4) : ((d + 2) % 4 + 2) % 4 = d := by omega
theorem BOk.side {nb : List Int → List (List Int)} {go : List Int → Int → Bool} (hgo : GoOk nb go) {A : List (List Int)} {fl : List Int} {st : BS} (h : BOk go A fl st) {i : Nat} (hi : i < st.2.2.length) {now : List Int} (hn : st.2.2.getD i [] = now) {d : Int} (h0 : 0 ≤ d) (h4 : d < 4) :
    BOk go A fl (sideS go fl now st d) ∧ (∃ r, (sideS go fl now st d).2.2 = st.2.2 ++ r) ∧ (go now d = true → fAt fl now d ≤ 0 → ah now d ∈ (sideS go fl now st d).2.2) := by
  have hnc : isC now := by rw [← hn]; exact h.cells _ (get_mem hi)
  unfold sideS
  split
  · rename_i hc
    obtain ⟨c1, c2, c3⟩ := hc
    have hac := hgo.step now hnc d h0 h4 c1
    obtain ⟨b1, b2⟩ := hgo.back now hnc d h0 h4 c1
    obtain ⟨e1, e2⟩ := cl_ix hac
    have hnew : ah now d ∉ st.2.2 := fun g => (h.seen _ e2).2 (by rw [e1]; exact g) c2
    have hne : ∀ j, j < st.2.2.length → ix (st.2.2.getD j []) ≠ ix (ah now d) := fun j hj e => hnew (by rw [← ix_inj (h.cells _ (get_mem hj)) hac e]; exact get_mem hj)
    refine ⟨⟨by rw [List.length_set]; exact h.l1, by rw [List.length_set]; exact h.l2, fun s hs => ?_, ?_, fun k hk => ?_, fun k hk => ?_, fun j hj => ?_, fun S hA hS s hs => ?_⟩, ⟨[ah now d], rfl⟩, fun _ _ => List.mem_append_right _ (List.mem_singleton.2 rfl)⟩
    · rcases List.mem_append.1 hs with hs | hs
      · exact h.cells s hs
      · rw [List.mem_singleton.1 hs]; exact hac
    · rw [List.nodup_append]
      exact ⟨h.nd, by simp, fun a ha b hb e => hnew (by rw [← List.mem_singleton.1 hb, ← e]; exact ha)⟩
    · show (st.1.set _ 1).getD k 0 = 0 ∨ (st.1.set _ 1).getD k 0 = 1
      rw [set_at (by rw [h.l1]; exact hk)]
      split
      · exact .inr rfl
      · exact h.bit k hk
    · show (st.1.set _ 1).getD k 0 ≠ 0 ↔ cl k ∈ st.2.2 ++ [ah now d]
      rw [set_at (by rw [h.l1]; exact hk), List.mem_append, List.mem_singleton]
      by_cases e : ix (ah now d) = k
      · rw [if_pos e]
        exact ⟨fun _ => .inr (by rw [← e, e1]), fun _ => by decide⟩
      · rw [if_neg e, h.seen k hk]
        exact ⟨.inl, fun g => g.elim id fun g => absurd (by rw [← g, ix_cl hk]) e⟩
    · have hj : j < (st.2.2 ++ [ah now d]).length := hj
      rw [List.length_append] at hj
      by_cases hjl : j < st.2.2.length
      · have eb : (st.2.1.set (ix (ah now d)) ((d + 2) % 4)).getD (ix (st.2.2.getD j [])) 0 = st.2.1.getD (ix (st.2.2.getD j [])) 0 := by
          rw [set_at (by rw [h.l2]; exact (cl_ix (h.cells _ (get_mem hjl))).2), if_neg fun e => hne j hjl e.symm]
        show (_ = -1 ∧ _) ∨ _
        simp only [app_get hjl, eb]
        rcases h.par j hjl with g | ⟨j', g1, g⟩
        · exact .inl g
        · refine .inr ⟨j', g1, ?_⟩
          rw [app_get (by omega)]; exact g
      · have hj : j = st.2.2.length := by simp only [List.length_cons, List.length_nil] at hj; omega
        subst hj
        have eb : (st.2.1.set (ix (ah now d)) ((d + 2) % 4)).getD (ix (ah now d)) 0 = (d + 2) % 4 := by
          rw [set_at (by rw [h.l2]; exact e2), if_pos rfl]
        refine .inr ⟨i, hi, ?_⟩
        simp only [app_last, eb, app_get hi, hn, two_mod h0 h4]
        exact ⟨by omega, by omega, b2, c1, trivial, by omega⟩
    · rcases List.mem_append.1 hs with hs | hs
      · exact h.least S hA hS s hs
      · rw [List.mem_singleton.1 hs]
        exact hS now hnc (by rw [← hn]; exact h.least S hA hS _ (get_mem hi)) d h0 h4 c1 (by omega)
  · rename_i hc
    refine ⟨h, ⟨[], (List.append_nil _).symm⟩, fun c1 c3 => ?_⟩
    have hac := hgo.step now hnc d h0 h4 c1
    obtain ⟨e1, e2⟩ := cl_ix hac
    have := (h.seen _ e2).1 fun g => hc ⟨c1, g, by omega⟩
    rw [e1] at this
    exact this
theorem BOk.sides {nb : List Int → List (List Int)} {go : List Int → Int → Bool} (hgo : GoOk nb go) {A : List (List Int)} {fl : List Int} {st : BS} (h : BOk go A fl st) {i : Nat} (hi : i < st.2.2.length) {now : List Int} (hn : st.2.2.getD i [] = now) :
    ∀ d : Nat, d ≤ 4 → BOk go A fl (sidesS go fl now st d) ∧ (∃ r, (sidesS go fl now st d).2.2 = st.2.2 ++ r) ∧ (∀ e : Nat, e < d → go now (e : Int) = true → fAt fl now (e : Int) ≤ 0 → ah now (e : Int) ∈ (sidesS go fl now st d).2.2)
  | 0, _ => ⟨h, ⟨[], (List.append_nil _).symm⟩, fun e he => by omega⟩
  | d + 1, hd => by
    obtain ⟨h1, ⟨r, h2⟩, h3⟩ := BOk.sides hgo h hi hn d (by omega)
    obtain ⟨q1, ⟨r', q2⟩, q3⟩ := h1.side hgo (i := i) (now := now) (d := (d : Int)) (by rw [h2, List.length_append]; omega) (by rw [h2, List.getD_eq_getElem?_getD, List.getElem?_append_left hi, ← List.getD_eq_getElem?_getD]; exact hn) (by omega) (by omega)
    refine ⟨q1, ⟨r ++ r', by show (sideS go fl now (sidesS go fl now st d) d).2.2 = _; rw [q2, h2, List.append_assoc]⟩, fun e he g1 g2 => ?_⟩
    by_cases hed : e = d
    · subst hed; exact q3 g1 g2
    · show _ ∈ (sideS go fl now (sidesS go fl now st d) d).2.2
      rw [q2]; exact List.mem_append_left _ (h3 e (by omega) g1 g2)
theorem nd_len : ∀ (n : Nat) (l : List Nat), l.Nodup → (∀ x, x ∈ l → x < n) → l.length ≤ n
  | 0, [], _, _ => Nat.le_refl _
  | 0, x :: _, _, h => absurd (h x List.mem_cons_self) (Nat.not_lt_zero _)
  | n + 1, l, hn, h => by
    by_cases hm : n ∈ l
    · have h1 := nd_len n (l.erase n) (hn.erase n) fun x hx => by
        have h2 := (List.Nodup.mem_erase_iff hn).1 hx
        have := h x h2.2
        have := h2.1
        omega
      have h3 := List.length_erase_of_mem hm
      omega
    · have h1 := nd_len n l hn fun x hx => by
        have := h x hx
        have : x ≠ n := fun e => hm (by rw [← e]; exact hx)
        omega
      omega
theorem BOk.len {go : List Int → Int → Bool} {A : List (List Int)} {fl : List Int} {st : BS} (h : BOk go A fl st) : st.2.2.length ≤ 100 := by
  have h1 : (st.2.2.map ix).Nodup := by
    refine List.Pairwise.map _ (fun a b hab => hab) (List.Pairwise.imp_of_mem (fun {a b} ha hb (hab : a ≠ b) (e : ix a = ix b) => hab (ix_inj (h.cells a ha) (h.cells b hb) e)) h.nd)
  have h2 : ∀ x, x ∈ st.2.2.map ix → x ∈ List.range 100 := fun x hx => by
    obtain ⟨s, hs, rfl⟩ := List.mem_map.1 hx
    exact List.mem_range.2 (cl_ix (h.cells s hs)).2
  have h4 := nd_len 100 _ h1 fun x hx => List.mem_range.1 (h2 x hx)
  rwa [List.length_map] at h4

/-! The way back. -/
theorem back_ok {nb : List Int → List (List Int)} {go : List Int → Int → Bool} (hgo : GoOk nb go) {A : List (List Int)} {fl : List Int} {st : BS} (h : BOk go A fl st) :
    ∀ (j : Nat), j < st.2.2.length → ∀ (n : Nat) (f : List Int), j < n → f.length = 200 → (∀ u v, u < 100 → v < 100 → matT f u v ≤ capI nb u v) →
      (∀ k, k ≤ j → 0 ≤ st.2.1.getD (ix (st.2.2.getD k [])) 0 → matT f (ix (ah (st.2.2.getD k []) (st.2.1.getD (ix (st.2.2.getD k [])) 0))) (ix (st.2.2.getD k [])) ≤ 0) →
      (backF st.2.1 n f (st.2.2.getD j [])).length = 200 ∧ (∀ u v, u < 100 → v < 100 → matT (backF st.2.1 n f (st.2.2.getD j [])) u v ≤ capI nb u v) ∧
      ∃ s, s ∈ A ∧ isC s ∧ ∀ u, u < 100 → sgN (matT (backF st.2.1 n f (st.2.2.getD j [])) u) 100 = sgN (matT f u) 100 + (if cl u = s then 1 else 0) - (if cl u = st.2.2.getD j [] then 1 else 0) := by
  intro j
  induction j using Nat.strongRecOn with
  | ind j ih =>
    intro hj n f hn hl hcap hres
    obtain ⟨n, rfl⟩ : ∃ m, n = m + 1 := ⟨n - 1, by omega⟩
    have hsc := h.cells _ (get_mem hj)
    unfold backF
    rcases h.par j hj with ⟨g1, g2⟩ | ⟨j', g1, g2, g3, g4, g5, g6, g7⟩
    · rw [g1, if_pos (by decide)]
      refine ⟨hl, hcap, _, g2, hsc, fun u hu => by omega⟩
    · have hj' : j' < st.2.2.length := by omega
      have hbc := h.cells _ (get_mem hj')
      rw [if_neg (by omega), g4]
      have hr := hres j (Nat.le_refl _) g2
      rw [g4] at hr
      obtain ⟨x1, x2⟩ := cl_ix hsc
      obtain ⟨y1, y2⟩ := cl_ix hbc
      generalize st.2.1.getD (ix (st.2.2.getD j [])) 0 = d at *
      have hm : ∀ a b, a < 100 → b < 100 → matT (fAdd f (st.2.2.getD j' []) ((d + 2) % 4)) a b = matT f a b + (if a = ix (st.2.2.getD j' []) ∧ b = ix (st.2.2.getD j []) then 1 else 0) - (if a = ix (st.2.2.getD j []) ∧ b = ix (st.2.2.getD j' []) then 1 else 0) := fun a b ha hb => by
        have := fAdd_mat (fl := f) hl (u := ix (st.2.2.getD j' [])) (v := ix (st.2.2.getD j [])) (d := (d + 2) % 4) (by omega) y2 x2 (by rw [y1, x1]; exact g6) ha hb
        rw [y1] at this; exact this
      have hlen := fAdd_len f (st.2.2.getD j' []) ((d + 2) % 4)
      have hopen : capI nb (ix (st.2.2.getD j' [])) (ix (st.2.2.getD j [])) = 1 := by
        unfold capI
        rw [y1, x1]
        exact if_pos ((hgo.nb _ hbc _).2 ⟨(d + 2) % 4, by omega, by omega, g5, g6.symm⟩)
      generalize hf' : fAdd f (st.2.2.getD j' []) ((d + 2) % 4) = f' at *
      obtain ⟨q1, q2, s, q3, q4, q5⟩ := ih j' g1 hj' n f' (by omega) (by omega) (fun u v hu hv => by
        rw [hm u v hu hv]
        by_cases e1 : u = ix (st.2.2.getD j' []) ∧ v = ix (st.2.2.getD j [])
        · obtain ⟨rfl, rfl⟩ := e1
          rw [hopen, if_pos ⟨rfl, rfl⟩]
          split <;> omega
        · rw [if_neg e1]
          have := hcap u v hu hv
          split <;> omega) (fun k hk hb => by
        have hkl : k < st.2.2.length := by omega
        have hkc := h.cells _ (get_mem hkl)
        rcases h.par k hkl with ⟨p1, -⟩ | ⟨k', p1, p2, p3, p4, -⟩
        · omega
        · have hk'c := h.cells _ (get_mem (show k' < st.2.2.length by omega))
          have hr := hres k (by omega) hb
          rw [p4] at hr ⊢
          rw [hm _ _ (cl_ix hk'c).2 (cl_ix hkc).2, if_neg (fun e => ?_)]
          · split <;> omega
          · have e2 := ix_inj hkc hsc e.2
            rw [List.getD_eq_getElem?_getD, List.getElem?_eq_getElem hkl, List.getD_eq_getElem?_getD, List.getElem?_eq_getElem hj] at e2
            exact absurd e2 (List.pairwise_iff_getElem.1 h.nd k j hkl hj (by omega)))
      refine ⟨q1, q2, s, q3, q4, fun u hu => ?_⟩
      rw [q5 u hu, sum_move (F := matT f) (F' := matT f') (ks := ix (st.2.2.getD j' [])) (kt := ix (st.2.2.getD j [])) y2 x2 (fun v hv => hm u v hu hv)]
      have z1 : (u = ix (st.2.2.getD j' [])) = (cl u = st.2.2.getD j' []) := propext ⟨fun e => by rw [e, y1], fun e => by rw [← e, ix_cl hu]⟩
      have z2 : (u = ix (st.2.2.getD j [])) = (cl u = st.2.2.getD j []) := propext ⟨fun e => by rw [e, x1], fun e => by rw [← e, ix_cl hu]⟩
      simp only [z1, z2]
      omega

/-- What holds on the way back, at the queue's place j. -/
structure BkInv (nb : List Int → List (List Int)) (st : BS) (j : Nat) (f : List Int) : Prop where
  len : f.length = 200
  cap : ∀ u v, u < 100 → v < 100 → matT f u v ≤ capI nb u v
  res : ∀ k, k ≤ j → 0 ≤ st.2.1.getD (ix (st.2.2.getD k [])) 0 → matT f (ix (ah (st.2.2.getD k []) (st.2.1.getD (ix (st.2.2.getD k [])) 0))) (ix (st.2.2.getD k [])) ≤ 0
theorem matT_anti (fl : List Int) (u v : Nat) : matT fl u v = - matT fl v u := by unfold matT; omega
theorem back_step {nb : List Int → List (List Int)} {go : List Int → Int → Bool} (hgo : GoOk nb go) {A : List (List Int)} {fl : List Int} {st : BS} (h : BOk go A fl st) {j : Nat} (hj : j < st.2.2.length) {f : List Int} (hI : BkInv nb st j f)
    (hb : 0 ≤ st.2.1.getD (ix (st.2.2.getD j [])) 0) :
    ∃ j' d, j' < j ∧ st.2.1.getD (ix (st.2.2.getD j [])) 0 = d ∧ d < 4 ∧ ah (st.2.2.getD j []) d = st.2.2.getD j' [] ∧ go (st.2.2.getD j' []) ((d + 2) % 4) = true ∧ ah (st.2.2.getD j' []) ((d + 2) % 4) = st.2.2.getD j [] ∧
      -1 ≤ fAt f (st.2.2.getD j' []) ((d + 2) % 4) ∧ fAt f (st.2.2.getD j' []) ((d + 2) % 4) ≤ 0 ∧ BkInv nb st j' (fAdd f (st.2.2.getD j' []) ((d + 2) % 4)) := by
  obtain ⟨hl, hcap, hres⟩ := hI
  have hsc := h.cells _ (get_mem hj)
  rcases h.par j hj with ⟨g1, g2⟩ | ⟨j', g1, g2, g3, g4, g5, g6, g7⟩
  · omega
  · have hj' : j' < st.2.2.length := by omega
    have hbc := h.cells _ (get_mem hj')
    have hr := hres j (Nat.le_refl _) g2
    rw [g4] at hr
    obtain ⟨x1, x2⟩ := cl_ix hsc
    obtain ⟨y1, y2⟩ := cl_ix hbc
    refine ⟨j', _, g1, rfl, g3, g4, g5, g6, ?_⟩
    generalize st.2.1.getD (ix (st.2.2.getD j [])) 0 = d at *
    have hat := fAt_mat (fl := f) (u := ix (st.2.2.getD j' [])) (v := ix (st.2.2.getD j [])) (d := (d + 2) % 4) (by omega) y2 x2 (by rw [y1, x1]; exact g6)
    rw [y1] at hat
    have hm : ∀ a b, a < 100 → b < 100 → matT (fAdd f (st.2.2.getD j' []) ((d + 2) % 4)) a b = matT f a b + (if a = ix (st.2.2.getD j' []) ∧ b = ix (st.2.2.getD j []) then 1 else 0) - (if a = ix (st.2.2.getD j []) ∧ b = ix (st.2.2.getD j' []) then 1 else 0) := fun a b ha hb => by
      have := fAdd_mat (fl := f) hl (u := ix (st.2.2.getD j' [])) (v := ix (st.2.2.getD j [])) (d := (d + 2) % 4) (by omega) y2 x2 (by rw [y1, x1]; exact g6) ha hb
      rw [y1] at this; exact this
    have hlen := fAdd_len f (st.2.2.getD j' []) ((d + 2) % 4)
    have hopen : capI nb (ix (st.2.2.getD j' [])) (ix (st.2.2.getD j [])) = 1 := by
      unfold capI
      rw [y1, x1]
      exact if_pos ((hgo.nb _ hbc _).2 ⟨(d + 2) % 4, by omega, by omega, g5, g6.symm⟩)
    have hanti := matT_anti f (ix (st.2.2.getD j' [])) (ix (st.2.2.getD j []))
    have hrev := hcap _ _ x2 y2
    have hle1 := capI_le nb (ix (st.2.2.getD j [])) (ix (st.2.2.getD j' []))
    refine ⟨by omega, by omega, by omega, fun u v hu hv => ?_, fun k hk hb => ?_⟩
    · rw [hm u v hu hv]
      by_cases e1 : u = ix (st.2.2.getD j' []) ∧ v = ix (st.2.2.getD j [])
      · obtain ⟨rfl, rfl⟩ := e1
        rw [hopen, if_pos ⟨rfl, rfl⟩]
        split <;> omega
      · rw [if_neg e1]
        have := hcap u v hu hv
        split <;> omega
    · have hkl : k < st.2.2.length := by omega
      have hkc := h.cells _ (get_mem hkl)
      rcases h.par k hkl with ⟨p1, -⟩ | ⟨k', p1, p2, p3, p4, -⟩
      · omega
      · have hk'c := h.cells _ (get_mem (show k' < st.2.2.length by omega))
        have hr := hres k (by omega) hb
        rw [p4] at hr ⊢
        rw [hm _ _ (cl_ix hk'c).2 (cl_ix hkc).2, if_neg (fun e => ?_)]
        · split <;> omega
        · have e2 := ix_inj hkc hsc e.2
          rw [List.getD_eq_getElem?_getD, List.getElem?_eq_getElem hkl, List.getD_eq_getElem?_getD, List.getElem?_eq_getElem hj] at e2
          exact absurd e2 (List.pairwise_iff_getElem.1 h.nd k j hkl hj (by omega))

/-! The whole search. -/
structure TabInv (nb : List Int → List (List Int)) (A G : List (List Int)) (fl : List Int) : Prop where
  len : fl.length = 200
  flow : Flw nb A G (matT fl)
theorem TabInv.bk {nb : List Int → List (List Int)} {go : List Int → Int → Bool} {A G : List (List Int)} {fl : List Int} (hT : TabInv nb A G fl) {st : BS} (h : BOk go A fl st) {i : Nat} (hi : i < st.2.2.length) : BkInv nb st i fl where
  len := hT.len
  cap := hT.flow.cap
  res := fun k hk hb => by
    have hkl : k < st.2.2.length := by omega
    rcases h.par k hkl with ⟨p1, -⟩ | ⟨k', p1, p2, p3, p4, p5, p6, p7⟩
    · omega
    · have hk'c := h.cells _ (get_mem (show k' < st.2.2.length by omega))
      have hkc := h.cells _ (get_mem hkl)
      rw [p4, ← fAt_mat (d := (st.2.1.getD (ix (st.2.2.getD k [])) 0 + 2) % 4) (by omega) (cl_ix hk'c).2 (cl_ix hkc).2 (by rw [(cl_ix hk'c).1, (cl_ix hkc).1]; exact p6), (cl_ix hk'c).1]
      exact p7
structure ReachOk (nb : List Int → List (List Int)) (A G : List (List Int)) (fl : List Int) (r : List Int × List Int × Bool) : Prop where
  len : r.2.1.length = 100
  bit : ∀ k, k < 100 → r.2.1.getD k 0 = 0 ∨ r.2.1.getD k 0 = 1
  yes : r.2.2 = true → TabInv nb A G r.1 ∧ valL A (matT r.1) = valL A (matT fl) + 1
  no : r.2.2 = false → r.1 = fl ∧ NearF nb A G (matT fl) (fun k => r.2.1.getD k 0 ≠ 0)
theorem reach_ok {nb : List Int → List (List Int)} {go : List Int → Int → Bool} (hgo : GoOk nb go) {A G : List (List Int)} (hA : ∀ s, s ∈ A → isC s) (hd : ∀ s, s ∈ A → s ∉ G) {fl B : List Int} (hT : TabInv nb A G fl) (hB : ∀ k, k < 100 → (B.getD k 0 ≠ 0 ↔ cl k ∈ G)) :
    ∀ (n i : Nat) (st : BS), BOk go A fl st → (∀ s, s ∈ A → s ∈ st.2.2) → i ≤ st.2.2.length → 100 < n + i →
      (∀ j, j < i → st.2.2.getD j [] ∉ G ∧ ∀ e : Nat, e < 4 → go (st.2.2.getD j []) (e : Int) = true → fAt fl (st.2.2.getD j []) (e : Int) ≤ 0 → ah (st.2.2.getD j []) (e : Int) ∈ st.2.2) → ReachOk nb A G fl (reachN go B fl n i st) := by
  intro n
  induction n with
  | zero => intro i st h _ hi hn; have := h.len; omega
  | succ n ih =>
    intro i st h hAq hi hn hdone
    unfold reachN
    split
    · rename_i hlt
      have hnc := h.cells _ (get_mem hlt)
      obtain ⟨x1, x2⟩ := cl_ix hnc
      split
      · rename_i hb
        have hg : st.2.2.getD i [] ∈ G := by have := (hB _ x2).1 hb; rwa [x1] at this
        obtain ⟨q1, q2, s, q3, q4, q5⟩ := back_ok hgo h i hlt 100 fl (by have := h.len; omega) hT.len hT.flow.cap fun k hk hb => by
          have hkl : k < st.2.2.length := by omega
          rcases h.par k hkl with ⟨p1, -⟩ | ⟨k', p1, p2, p3, p4, p5, p6, p7⟩
          · omega
          · have hk'c := h.cells _ (get_mem (show k' < st.2.2.length by omega))
            have hkc := h.cells _ (get_mem hkl)
            rw [p4, ← fAt_mat (d := (st.2.1.getD (ix (st.2.2.getD k [])) 0 + 2) % 4) (by omega) (cl_ix hk'c).2 (cl_ix hkc).2 (by rw [(cl_ix hk'c).1, (cl_ix hkc).1]; exact p6), (cl_ix hk'c).1]
            exact p7
        refine ⟨h.l1, h.bit, fun _ => ⟨⟨q1, ⟨matT_anti _, q2, fun u hu ha hgu => ?_⟩⟩, valL_up hd q3 hg q4 q5⟩, fun g => (by cases g)⟩
        show sgN (matT (backF st.2.1 100 fl (st.2.2.getD i [])) u) 100 = 0
        rw [q5 u hu, if_neg (fun e => ha (show cl u ∈ A by rw [e]; exact q3)), if_neg (fun e => hgu (show cl u ∈ G by rw [e]; exact hg))]
        have := hT.flow.cons u hu ha hgu
        omega
      · rename_i hb
        have hng : st.2.2.getD i [] ∉ G := fun g => hb ((hB _ x2).2 (by rw [x1]; exact g))
        obtain ⟨h1, ⟨r, h2⟩, h3⟩ := h.sides hgo hlt rfl 4 (Nat.le_refl 4)
        refine ih (i + 1) _ h1 (fun s hs => by rw [h2]; exact List.mem_append_left _ (hAq s hs)) (by rw [h2, List.length_append]; omega) (by omega) fun j hj => ?_
        by_cases hji : j = i
        · subst hji
          have e : (sidesS go fl (st.2.2.getD j []) st 4).2.2.getD j [] = st.2.2.getD j [] := by
            rw [h2, List.getD_eq_getElem?_getD, List.getElem?_append_left hlt, ← List.getD_eq_getElem?_getD]
          rw [e]
          exact ⟨hng, h3⟩
        · have hjl : j < st.2.2.length := by omega
          have e : (sidesS go fl (st.2.2.getD i []) st 4).2.2.getD j [] = st.2.2.getD j [] := by
            rw [h2, List.getD_eq_getElem?_getD, List.getElem?_append_left hjl, ← List.getD_eq_getElem?_getD]
          rw [e]
          obtain ⟨d1, d2⟩ := hdone j (by omega)
          exact ⟨d1, fun e he g1 g2 => by rw [h2]; exact List.mem_append_left _ (d2 e he g1 g2)⟩
    · rename_i hlt
      have hall : ∀ s, s ∈ st.2.2 → s ∉ G ∧ ∀ e : Nat, e < 4 → go s (e : Int) = true → fAt fl s (e : Int) ≤ 0 → ah s (e : Int) ∈ st.2.2 := fun s hs => by
        obtain ⟨j, hj, rfl⟩ := List.getElem_of_mem hs
        have := hdone j (by omega)
        rwa [List.getD_eq_getElem?_getD, List.getElem?_eq_getElem hj] at this
      have free : ∀ u v, u < 100 → v < 100 → (matT fl u v < capI nb u v ↔ ∃ d : Int, 0 ≤ d ∧ d < 4 ∧ go (cl u) d = true ∧ cl v = ah (cl u) d ∧ fAt fl (cl u) d ≤ 0) := fun u v hu hv => by
        have huc : isC (cl u) := ⟨u, hu, rfl⟩
        constructor
        · intro hlt
          by_cases ho : cl v ∈ nb (cl u)
          · obtain ⟨d, d0, d4, d1, d2⟩ := (hgo.nb _ huc _).1 ho
            refine ⟨d, d0, d4, d1, d2, ?_⟩
            have e1 : capI nb u v = 1 := if_pos ho
            rw [fAt_mat ⟨d0, d4⟩ hu hv d2.symm]; omega
          · exfalso
            have e1 : capI nb u v = 0 := if_neg ho
            have e2 := hT.flow.cap v u hv hu
            have e3 := matT_anti fl u v
            have e4 : capI nb v u = 0 := if_neg fun g => by
              obtain ⟨d, d0, d4, d1, d2⟩ := (hgo.nb _ ⟨v, hv, rfl⟩ _).1 g
              obtain ⟨b1, b2⟩ := hgo.back _ ⟨v, hv, rfl⟩ d d0 d4 d1
              exact ho ((hgo.nb _ huc _).2 ⟨(d + 2) % 4, by omega, by omega, by rw [d2]; exact b1, by rw [d2, b2]⟩)
            omega
        · rintro ⟨d, d0, d4, d1, d2, d3⟩
          have e1 : capI nb u v = 1 := if_pos ((hgo.nb _ huc _).2 ⟨d, d0, d4, d1, d2⟩)
          rw [fAt_mat ⟨d0, d4⟩ hu hv d2.symm] at d3
          omega
      refine ⟨h.l1, h.bit, fun g => (by cases g), fun _ => ⟨rfl, fun u hu => ⟨fun ha => (h.seen u hu).2 (hAq _ ha), fun hs => (hall _ ((h.seen u hu).1 hs)).1⟩, fun u v hu hv hs hlt => ?_, fun S hSA hS u hu hs => ?_⟩⟩
      · obtain ⟨d, d0, d4, d1, d2, d3⟩ := (free u v hu hv).1 hlt
        have := (hall _ ((h.seen u hu).1 hs)).2 d.toNat (by omega)
        rw [Int.toNat_of_nonneg d0] at this
        exact (h.seen v hv).2 (by rw [d2]; exact this d1 d3)
      · have := h.least (fun a => ∃ k, k < 100 ∧ a = cl k ∧ S k) (fun s hs => by
          obtain ⟨k, hk, rfl⟩ := hA s hs
          exact ⟨k, hk, rfl, hSA k hk hs⟩) (fun a ha hSa d d0 d4 d1 d3 => by
          obtain ⟨k, hk, rfl, hSk⟩ := hSa
          obtain ⟨kt, hkt, e⟩ := hgo.step _ ⟨k, hk, rfl⟩ d d0 d4 d1
          exact ⟨kt, hkt, e, hS k kt hk hkt hSk ((free k kt hk hkt).2 ⟨d, d0, d4, d1, e.symm, d3⟩)⟩) (cl u) ((h.seen u hu).1 hs)
        obtain ⟨k, hk, e, hSk⟩ := this
        obtain rfl := cl_inj e
        exact hSk
/-- What lies on a side that is open is -1 to 1. -/
theorem TabInv.rng {nb : List Int → List (List Int)} {go : List Int → Int → Bool} (hgo : GoOk nb go) {A G : List (List Int)} {fl : List Int} (hT : TabInv nb A G fl) {s : List Int} (hs : isC s) {d : Int} (d0 : 0 ≤ d) (d4 : d < 4) (hg : go s d = true) : -1 ≤ fAt fl s d ∧ fAt fl s d ≤ 1 := by
  have hc := hgo.step s hs d d0 d4 hg
  obtain ⟨x1, x2⟩ := cl_ix hs
  obtain ⟨y1, y2⟩ := cl_ix hc
  have e := fAt_mat (fl := fl) (u := ix s) (v := ix (ah s d)) ⟨d0, d4⟩ x2 y2 (by rw [x1, y1])
  rw [x1] at e
  have h1 := hT.flow.cap _ _ x2 y2
  have h2 := hT.flow.cap _ _ y2 x2
  have h3 := matT_anti fl (ix s) (ix (ah s d))
  have h4 := capI_le nb (ix s) (ix (ah s d))
  have h5 := capI_le nb (ix (ah s d)) (ix s)
  omega
end Go.Proofs.YtjbgjgkogmlpfaaGreat.Fl
