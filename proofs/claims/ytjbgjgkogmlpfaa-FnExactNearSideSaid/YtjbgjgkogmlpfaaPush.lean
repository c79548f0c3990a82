/- A push over a map of flows, plain: what it brings, and what is met where it fails. -/
import Derived.Test.YtjbgjgkogmlpfaaCut
namespace Go.Proofs.Ytjbgjgkogmlpfaa.Fl
open Go Go.Eng
set_option linter.unusedSimpArgs false
set_option linter.unusedVariables false
set_option maxRecDepth 100000
set_option maxHeartbeats 4000000

abbrev FL := List (List Int × Int)
/-- The cells by number. -/
def cl (k : Nat) : List Int := [((k % 10 : Nat) : Int), ((k / 10 : Nat) : Int)]
def isC (s : List Int) : Prop := ∃ k, k < 100 ∧ s = cl k
theorem cl_inj {k l : Nat} (h : cl k = cl l) : k = l := by
  unfold cl at h
  simp only [List.cons.injEq, and_true] at h
  omega
theorem isC_len {s : List Int} (h : isC s) : s.length = 2 := by obtain ⟨k, -, rfl⟩ := h; rfl
theorem key_inj {a b c d : List Int} (ha : a.length = 2) (hc : c.length = 2) : (a ++ b = c ++ d) = (a = c ∧ b = d) := by
  refine propext ⟨fun h => ?_, fun h => by rw [h.1, h.2]⟩
  exact List.append_inj h (by rw [ha, hc])

/-! Maps. -/
def kn (f : FL) : Prop := (f.map (·.1)).Nodup
theorem lkM_notin {f : FL} {q : List Int} (h : q ∉ f.map (·.1)) : lkM f q = 0 := by
  induction f with
  | nil => rfl
  | cons e es ih =>
    simp only [List.map_cons, List.mem_cons, not_or] at h
    unfold lkM
    rw [if_neg h.1]; exact ih h.2
theorem delM_keys (f : FL) (q : List Int) : List.Sublist ((delM f q).map (·.1)) (f.map (·.1)) := by
  induction f with
  | nil => exact List.Sublist.refl _
  | cons e es ih =>
    unfold delM
    split
    · exact List.sublist_cons_self _ _
    · exact ih.cons_cons _
theorem kn_del {f : FL} (h : kn f) (q : List Int) : kn (delM f q) := (delM_keys f q).nodup h
theorem upM_keys {f : FL} {q r : List Int} {v : Int} (h : r ∈ (upM f q v).map (·.1)) : r = q ∨ r ∈ f.map (·.1) := by
  induction f with
  | nil => simp only [upM, List.map_cons, List.map_nil, List.mem_singleton] at h; exact .inl h
  | cons e es ih =>
    unfold upM at h
    split at h
    · rename_i hq
      simp only [List.map_cons, List.mem_cons] at h
      rcases h with h | h
      · exact .inl h
      · exact .inr (List.mem_cons_of_mem _ h)
    · simp only [List.map_cons, List.mem_cons] at h
      rcases h with h | h
      · exact .inr (by rw [h]; exact List.mem_cons_self)
      · rcases ih h with h | h
        · exact .inl h
        · exact .inr (List.mem_cons_of_mem _ h)
theorem kn_up {f : FL} (h : kn f) (q : List Int) (v : Int) : kn (upM f q v) := by
  induction f with
  | nil => simp [kn, upM]
  | cons e es ih =>
    unfold kn at h
    simp only [List.map_cons, List.nodup_cons] at h
    unfold upM
    split
    · rename_i hq
      unfold kn
      simp only [List.map_cons, List.nodup_cons]
      rw [hq]; exact h
    · rename_i hq
      unfold kn
      simp only [List.map_cons, List.nodup_cons]
      refine ⟨fun g => ?_, ih h.2⟩
      rcases upM_keys g with g | g
      · exact hq g.symm
      · exact h.1 g
theorem lkM_delM {f : FL} (h : kn f) (q r : List Int) : lkM (delM f q) r = if r = q then 0 else lkM f r := by
  induction f with
  | nil => simp [delM, lkM]
  | cons e es ih =>
    unfold kn at h
    simp only [List.map_cons, List.nodup_cons] at h
    unfold delM
    split
    · rename_i hq
      by_cases hr : r = q
      · rw [if_pos hr, hr, hq]; exact lkM_notin h.1
      · rw [if_neg hr]
        exact (show lkM (e :: es) r = lkM es r from if_neg (fun g => hr (by rw [g, hq]))).symm
    · rename_i hq
      show lkM (e :: delM es q) r = if r = q then 0 else lkM (e :: es) r
      unfold lkM
      rw [ih h.2]
      by_cases hr : r = e.1
      · rw [if_pos hr, if_pos hr, if_neg (fun g => hq (by rw [← g, hr]))]
      · rw [if_neg hr, if_neg hr]

/-! Flows. -/
def bz (x : Int) : Int := if x = 0 then 0 else 1
def Fw (f : FL) (a b : List Int) : Int := bz (lkM f (a ++ b)) - bz (lkM f (b ++ a))
def Dv (f : FL) (u : List Int) : Int := sgN (fun v => Fw f u (cl v)) 100
def updF (f : FL) (s t : List Int) : FL := if lkM f (t ++ s) = 0 then upM f (s ++ t) 1 else delM f (t ++ s)
theorem updF_lk {f : FL} (hk : kn f) {s t : List Int} (hs : s.length = 2) (ht : t.length = 2) {a b : List Int} (ha : a.length = 2) :
    lkM (updF f s t) (a ++ b) = if lkM f (t ++ s) = 0 then (if a = s ∧ b = t then 1 else lkM f (a ++ b)) else (if a = t ∧ b = s then 0 else lkM f (a ++ b)) := by
  unfold updF
  split
  · rw [lkM_upM]; simp only [key_inj ha hs]
  · rw [lkM_delM hk]; simp only [key_inj ha ht]
theorem Fw_upd {f : FL} (hk : kn f) {s t : List Int} (hs : s.length = 2) (ht : t.length = 2) (hst : s ≠ t) (h0 : lkM f (s ++ t) = 0) {a b : List Int} (ha : a.length = 2) (hb : b.length = 2) :
    Fw (updF f s t) a b = Fw f a b + (if a = s ∧ b = t then 1 else 0) - (if a = t ∧ b = s then 1 else 0) := by
  unfold Fw
  rw [updF_lk hk hs ht ha, updF_lk hk hs ht hb]
  by_cases h1 : a = s ∧ b = t
  · obtain ⟨rfl, rfl⟩ := h1
    rw [if_pos (⟨rfl, rfl⟩ : a = a ∧ b = b), if_neg (fun g : b = a ∧ a = b => hst g.2), if_neg (fun g : a = b ∧ b = a => hst g.1), if_pos (⟨rfl, rfl⟩ : b = b ∧ a = a), h0, if_pos (⟨rfl, rfl⟩ : a = a ∧ b = b), if_neg (fun g : a = b ∧ b = a => hst g.1)]
    by_cases h2 : lkM f (b ++ a) = 0
    · rw [if_pos h2, if_pos h2, h2]; rfl
    · rw [if_neg h2, if_neg h2]; simp [bz, h2]
  · by_cases h3 : a = t ∧ b = s
    · obtain ⟨rfl, rfl⟩ := h3
      rw [if_neg (fun g : a = b ∧ b = a => hst g.2), if_pos (⟨rfl, rfl⟩ : a = a ∧ b = b), if_pos (⟨rfl, rfl⟩ : b = b ∧ a = a), if_neg (fun g : b = a ∧ a = b => hst g.1), h0, if_neg (fun g : a = b ∧ b = a => hst g.2), if_pos (⟨rfl, rfl⟩ : a = a ∧ b = b)]
      by_cases h2 : lkM f (a ++ b) = 0
      · rw [if_pos h2, if_pos h2, h2]; rfl
      · rw [if_neg h2, if_neg h2]; simp [bz, h2]
    · rw [if_neg h1, if_neg h3, if_neg (fun g : b = s ∧ a = t => h3 ⟨g.2, g.1⟩), if_neg (fun g : b = t ∧ a = s => h1 ⟨g.2, g.1⟩), if_neg h1, if_neg h3]
      by_cases h2 : lkM f (t ++ s) = 0
      · rw [if_pos h2, if_pos h2]; omega
      · rw [if_neg h2, if_neg h2]; omega
open Classical in
/-- One more runs from s to t. -/
theorem Dv_move {D D' : List Int → List Int → Int} {s t : List Int} (hs : isC s) (ht : isC t) {u : List Int}
    (h : ∀ b, isC b → D' u b = D u b + (if u = s ∧ b = t then 1 else 0) - (if u = t ∧ b = s then 1 else 0)) :
    sgN (fun v => D' u (cl v)) 100 = sgN (fun v => D u (cl v)) 100 + (if u = s then 1 else 0) - (if u = t then 1 else 0) := by
  obtain ⟨ks, hks, rfl⟩ := hs
  obtain ⟨kt, hkt, rfl⟩ := ht
  have e1 : sgN (fun v => D' u (cl v)) 100 = sgN (fun v => (D u (cl v) + (if v = kt then (if u = cl ks then 1 else 0) else 0)) + - (if v = ks then (if u = cl kt then 1 else 0) else 0)) 100 := by
    refine sgN_congr 100 fun v hv => ?_
    rw [h _ ⟨v, hv, rfl⟩]
    by_cases h1 : v = kt
    · subst h1
      by_cases h2 : v = ks
      · subst h2; simp; omega
      · have h3 : ¬ cl v = cl ks := fun g => h2 (cl_inj g)
        simp [h2, h3]
    · have h3 : ¬ cl v = cl kt := fun g => h1 (cl_inj g)
      by_cases h2 : v = ks
      · subst h2; simp [h1, h3]; omega
      · have h4 : ¬ cl v = cl ks := fun g => h2 (cl_inj g)
        simp [h1, h2, h3, h4]
  rw [e1, sgN_add, sgN_neg, sgN_add, sgN_one, sgN_one, if_pos hkt, if_pos hks]
  omega
theorem Dv_upd {f : FL} (hk : kn f) {s t : List Int} (hs : isC s) (ht : isC t) (hst : s ≠ t) (h0 : lkM f (s ++ t) = 0) {u : List Int} (hu : isC u) :
    Dv (updF f s t) u = Dv f u + (if u = s then 1 else 0) - (if u = t then 1 else 0) := by
  unfold Dv
  have := Dv_move (D := Fw f) (D' := Fw (updF f s t)) hs ht (u := u) fun b hb => by
    rw [Fw_upd hk (isC_len hs) (isC_len ht) hst h0 (isC_len hu) (isC_len hb)]
  rw [this]
structure FlOk (nb : List Int → List (List Int)) (f : FL) : Prop where
  kn : kn f
  one : ∀ a b, isC a → isC b → lkM f (a ++ b) ≠ 0 → lkM f (b ++ a) = 0
  op : ∀ a b, isC a → isC b → lkM f (a ++ b) ≠ 0 → b ∈ nb a
theorem FlOk.upd {nb : List Int → List (List Int)} {f : FL} (h : FlOk nb f) {s t : List Int} (hs : isC s) (ht : isC t) (hst : s ≠ t) (h0 : lkM f (s ++ t) = 0) (hn : t ∈ nb s) : FlOk nb (updF f s t) where
  kn := by
    unfold updF
    split
    · exact kn_up h.kn _ _
    · exact kn_del h.kn _
  one := fun a b ha hb => by
    rw [updF_lk h.kn (isC_len hs) (isC_len ht) (isC_len ha), updF_lk h.kn (isC_len hs) (isC_len ht) (isC_len hb)]
    have hone := h.one a b ha hb
    by_cases h2 : lkM f (t ++ s) = 0
    · rw [if_pos h2, if_pos h2]
      by_cases h1 : a = s ∧ b = t
      · obtain ⟨rfl, rfl⟩ := h1
        intro _
        rw [if_neg (fun g : b = a ∧ a = b => hst g.2)]; exact h2
      · rw [if_neg h1]
        intro h3
        by_cases h4 : b = s ∧ a = t
        · obtain ⟨rfl, rfl⟩ := h4
          exact absurd h2 h3
        · rw [if_neg h4]; exact hone h3
    · rw [if_neg h2, if_neg h2]
      by_cases h1 : a = t ∧ b = s
      · rw [if_pos h1]; intro g; exact absurd rfl g
      · rw [if_neg h1]
        intro h3
        by_cases h4 : b = t ∧ a = s
        · rw [if_pos h4]
        · rw [if_neg h4]; exact hone h3
  op := fun a b ha hb => by
    rw [updF_lk h.kn (isC_len hs) (isC_len ht) (isC_len ha)]
    by_cases h2 : lkM f (t ++ s) = 0
    · rw [if_pos h2]
      by_cases h1 : a = s ∧ b = t
      · obtain ⟨rfl, rfl⟩ := h1
        exact fun _ => hn
      · rw [if_neg h1]; exact h.op a b ha hb
    · rw [if_neg h2]
      by_cases h1 : a = t ∧ b = s
      · rw [if_pos h1]; intro g; exact absurd rfl g
      · rw [if_neg h1]; exact h.op a b ha hb

/-! The push. -/
abbrev PR := Bool × FL × FL
def pushL (rec : FL → FL → List Int → PR) (s : List Int) : List (List Int) → FL → FL → PR
  | [], f, m => (false, f, m)
  | t :: ts, f, m => if lkM m t = 0 ∧ lkM f (s ++ t) = 0 then
      (if (rec f m t).1 = true then (true, updF (rec f m t).2.1 s t, (rec f m t).2.2) else pushL rec s ts (rec f m t).2.1 (rec f m t).2.2)
    else pushL rec s ts f m
def pushN (nb : List Int → List (List Int)) (G : List (List Int)) : Nat → FL → FL → List Int → PR
  | 0, f, m, _ => (false, f, m)
  | n + 1, f, m, s => if s ∈ G then (true, f, m) else pushL (pushN nb G n) s (nb s) f (upM m s 1)
def unK (m : FL) : Nat → Nat
  | 0 => 0
  | k + 1 => unK m k + if lkM m (cl k) = 0 then 1 else 0
def un (m : FL) : Nat := unK m 100
def grM (m m' : FL) : Prop := ∀ a, lkM m a ≠ 0 → lkM m' a ≠ 0
theorem grM_trans {m m1 m2 : FL} (h : grM m m1) (k : grM m1 m2) : grM m m2 := fun a ha => k a (h a ha)
theorem unK_mono {m m' : FL} (h : grM m m') : ∀ k, unK m' k ≤ unK m k
  | 0 => Nat.le_refl _
  | k + 1 => by
    have := unK_mono h k
    unfold unK
    by_cases h1 : lkM m (cl k) = 0
    · rw [if_pos h1]; split <;> omega
    · rw [if_neg h1, if_neg (h _ h1)]; omega
theorem un_mono {m m' : FL} (h : grM m m') : un m' ≤ un m := unK_mono h 100
theorem grM_up (m : FL) (s : List Int) : grM m (upM m s 1) := fun a ha => by
  rw [lkM_upM]; split
  · decide
  · exact ha
theorem unK_up {m : FL} {k : Nat} (h0 : lkM m (cl k) = 0) : ∀ n, k < n → unK (upM m (cl k) 1) n < unK m n
  | 0, h => by omega
  | n + 1, h => by
    unfold unK
    by_cases hk : k = n
    · subst hk
      have := unK_mono (grM_up m (cl k)) k
      rw [lkM_upM, if_pos rfl, if_pos h0, if_neg (by decide)]; omega
    · have := unK_up h0 n (by omega)
      have e : lkM (upM m (cl k) 1) (cl n) = lkM m (cl n) := by rw [lkM_upM, if_neg fun g => hk (cl_inj g).symm]
      rw [e]; omega
theorem un_up {m : FL} {s : List Int} (hs : isC s) (h0 : lkM m s = 0) : un (upM m s 1) < un m := by
  obtain ⟨k, hk, rfl⟩ := hs
  exact unK_up h0 100 hk

/-- Shut under what is free. -/
def shutF (nb : List Int → List (List Int)) (f : FL) (S : List Int → Prop) : Prop := ∀ a, isC a → S a → ∀ t, t ∈ nb a → lkM f (a ++ t) = 0 → S t
structure PushOk (nb : List Int → List (List Int)) (G : List (List Int)) (f m : FL) (s : List Int) (r : PR) : Prop where
  gr : grM m r.2.2
  yes : r.1 = true → (∃ g, g ∈ G ∧ isC g ∧ ∀ u, isC u → Dv r.2.1 u = Dv f u + (if u = s then 1 else 0) - (if u = g then 1 else 0)) ∧ FlOk nb r.2.1 ∧
    ∀ a b, isC a → isC b → lkM m a ≠ 0 → lkM r.2.1 (a ++ b) = lkM f (a ++ b) ∧ lkM r.2.1 (b ++ a) = lkM f (b ++ a)
  no : r.1 = false → r.2.1 = f ∧ lkM r.2.2 s ≠ 0 ∧ ∀ a, isC a → lkM m a = 0 → lkM r.2.2 a ≠ 0 → a ∉ G ∧ (∀ t, t ∈ nb a → lkM f (a ++ t) = 0 → lkM r.2.2 t ≠ 0) ∧
    ∀ S : List Int → Prop, S s → shutF nb f S → S a
/-- The loop over the cells beside. -/
structure LoopOk (nb : List Int → List (List Int)) (G : List (List Int)) (f m : FL) (s : List Int) (ts : List (List Int)) (r : PR) : Prop where
  gr : grM m r.2.2
  yes : r.1 = true → (∃ g, g ∈ G ∧ isC g ∧ ∀ u, isC u → Dv r.2.1 u = Dv f u + (if u = s then 1 else 0) - (if u = g then 1 else 0)) ∧ FlOk nb r.2.1 ∧
    ∀ a b, isC a → isC b → a ≠ s → lkM m a ≠ 0 → lkM r.2.1 (a ++ b) = lkM f (a ++ b) ∧ lkM r.2.1 (b ++ a) = lkM f (b ++ a)
  no : r.1 = false → r.2.1 = f ∧ (∀ t, t ∈ ts → lkM f (s ++ t) = 0 → lkM r.2.2 t ≠ 0) ∧ ∀ a, isC a → lkM m a = 0 → lkM r.2.2 a ≠ 0 → a ∉ G ∧ (∀ t, t ∈ nb a → lkM f (a ++ t) = 0 → lkM r.2.2 t ≠ 0) ∧
    ∀ S : List Int → Prop, S s → shutF nb f S → S a
theorem loop_ok {nb : List Int → List (List Int)} (hnb : ∀ a, isC a → ∀ t, t ∈ nb a → isC t ∧ t ≠ a) {G : List (List Int)} {rec : FL → FL → List Int → PR} {n : Nat}
    (hrec : ∀ f m t, isC t → FlOk nb f → lkM m t = 0 → un m < n → PushOk nb G f m t (rec f m t)) {s : List Int} (hs : isC s) :
    ∀ (ts : List (List Int)) (f m : FL), (∀ t, t ∈ ts → t ∈ nb s) → FlOk nb f → lkM m s ≠ 0 → un m < n → LoopOk nb G f m s ts (pushL rec s ts f m) := by
  intro ts
  induction ts with
  | nil =>
    intro f m _ hf hms hun
    refine ⟨fun a ha => ha, fun h => (by cases h), fun _ => ⟨rfl, fun t ht => (by cases ht), fun a _ h0 h1 => absurd h0 h1⟩⟩
  | cons t ts ih =>
    intro f m hts hf hms hun
    have htn := hts t List.mem_cons_self
    obtain ⟨htc, hne⟩ := hnb s hs t htn
    unfold pushL
    split
    case isFalse hc =>
      have := ih f m (fun x hx => hts x (List.mem_cons_of_mem _ hx)) hf hms hun
      refine ⟨this.gr, this.yes, fun h => ?_⟩
      obtain ⟨h1, h2, h3⟩ := this.no h
      refine ⟨h1, fun x hx hx0 => ?_, h3⟩
      rcases List.mem_cons.1 hx with rfl | hx
      · exact this.gr _ fun g => hc ⟨g, hx0⟩
      · exact h2 x hx hx0
    case isTrue hc =>
      obtain ⟨hc1, hc2⟩ := hc
      have hP := hrec f m t htc hf hc1 hun
      generalize rec f m t = r at *
      split
      · rename_i hr
        obtain ⟨⟨g, hg, hgc, hD⟩, hF, hU⟩ := hP.yes hr
        have h0 : lkM r.2.1 (s ++ t) = 0 := by rw [(hU s t hs htc hms).1]; exact hc2
        refine ⟨hP.gr, fun _ => ⟨⟨g, hg, hgc, fun u hu => ?_⟩, hF.upd hs htc (fun e => hne e.symm) h0 htn, fun a b ha hb has hma => ?_⟩, fun h => (by cases h)⟩
        · show Dv (updF r.2.1 s t) u = _
          rw [Dv_upd hF.kn hs htc (fun e => hne e.symm) h0 hu, hD u hu]
          omega
        · show lkM (updF r.2.1 s t) (a ++ b) = _ ∧ lkM (updF r.2.1 s t) (b ++ a) = _
          have hat : a ≠ t := fun e => hma (by rw [e]; exact hc1)
          rw [updF_lk hF.kn (isC_len hs) (isC_len htc) (isC_len ha), updF_lk hF.kn (isC_len hs) (isC_len htc) (isC_len hb),
            if_neg (fun g : a = s ∧ b = t => has g.1), if_neg (fun g : a = t ∧ b = s => hat g.1), if_neg (fun g : b = s ∧ a = t => hat g.2), if_neg (fun g : b = t ∧ a = s => has g.2), ite_self, ite_self]
          exact hU a b ha hb hma
      · rename_i hr
        have hr : r.1 = false := by cases h : r.1 with | true => exact absurd h hr | false => rfl
        obtain ⟨h1, h2, h3⟩ := hP.no hr
        rw [h1]
        have hL := ih f r.2.2 (fun x hx => hts x (List.mem_cons_of_mem _ hx)) hf (hP.gr _ hms) (Nat.lt_of_le_of_lt (un_mono hP.gr) hun)
        refine ⟨grM_trans hP.gr hL.gr, fun h => ?_, fun h => ?_⟩
        · obtain ⟨q1, q2, q3⟩ := hL.yes h
          exact ⟨q1, q2, fun a b ha hb has hma => q3 a b ha hb has (hP.gr _ hma)⟩
        · obtain ⟨q1, q2, q3⟩ := hL.no h
          refine ⟨q1, fun x hx hx0 => ?_, fun a ha ha0 ha1 => ?_⟩
          · rcases List.mem_cons.1 hx with rfl | hx
            · exact hL.gr _ h2
            · exact q2 x hx hx0
          · by_cases hm : lkM r.2.2 a = 0
            · exact q3 a ha hm ha1
            · obtain ⟨p1, p2, p3⟩ := h3 a ha ha0 hm
              exact ⟨p1, fun x hx hx0 => hL.gr _ (p2 x hx hx0), fun S hSs hS => p3 S (hS s hs hSs t htn hc2) hS⟩
theorem push_ok {nb : List Int → List (List Int)} (hnb : ∀ a, isC a → ∀ t, t ∈ nb a → isC t ∧ t ≠ a) {G : List (List Int)} :
    ∀ (n : Nat) (f m : FL) (s : List Int), isC s → FlOk nb f → lkM m s = 0 → un m < n → PushOk nb G f m s (pushN nb G n f m s) := by
  intro n
  induction n with
  | zero => intro f m s _ _ _ h; omega
  | succ n ih =>
    intro f m s hs hf h0 hun
    unfold pushN
    split
    · rename_i hg
      refine ⟨fun a ha => ha, fun _ => ⟨⟨s, hg, hs, fun u hu => ?_⟩, hf, fun a b _ _ _ => ⟨rfl, rfl⟩⟩, fun h => (by cases h)⟩
      show Dv f u = _
      omega
    · rename_i hg
      have hup := un_up hs h0
      have hL := loop_ok hnb (G := G) (n := n) (fun f m t ht hf h0 hu => ih f m t ht hf h0 hu) hs (nb s) f (upM m s 1) (fun t ht => ht) hf (by rw [lkM_upM, if_pos rfl]; decide) (by omega)
      refine ⟨grM_trans (grM_up m s) hL.gr, fun h => ?_, fun h => ?_⟩
      · obtain ⟨q1, q2, q3⟩ := hL.yes h
        refine ⟨q1, q2, fun a b ha hb hma => q3 a b ha hb (fun e => hma (by rw [e]; exact h0)) (grM_up m s _ hma)⟩
      · obtain ⟨q1, q2, q3⟩ := hL.no h
        refine ⟨q1, hL.gr _ (by rw [lkM_upM, if_pos rfl]; decide), fun a ha ha0 ha1 => ?_⟩
        by_cases e : a = s
        · subst e
          exact ⟨hg, q2, fun S hS _ => hS⟩
        · exact q3 a ha (by rw [lkM_upM, if_neg e]; exact ha0) ha1

/-! A round: a push from each cell of the source that is not met. -/
def sendN (nb : List Int → List (List Int)) (G : List (List Int)) (n : Nat) : List (List Int) → FL → FL → PR
  | [], f, m => (false, f, m)
  | s :: ss, f, m => if lkM m s = 0 then
      (if (pushN nb G n f m s).1 = true then (true, (pushN nb G n f m s).2.1, (pushN nb G n f m s).2.2) else sendN nb G n ss (pushN nb G n f m s).2.1 (pushN nb G n f m s).2.2)
    else sendN nb G n ss f m
structure SendOk (nb : List Int → List (List Int)) (A G : List (List Int)) (f m : FL) (ss : List (List Int)) (r : PR) : Prop where
  gr : grM m r.2.2
  yes : r.1 = true → (∃ s g, s ∈ A ∧ g ∈ G ∧ isC s ∧ isC g ∧ ∀ u, isC u → Dv r.2.1 u = Dv f u + (if u = s then 1 else 0) - (if u = g then 1 else 0)) ∧ FlOk nb r.2.1
  no : r.1 = false → r.2.1 = f ∧ (∀ s, s ∈ ss → lkM r.2.2 s ≠ 0) ∧ ∀ a, isC a → lkM m a = 0 → lkM r.2.2 a ≠ 0 → a ∉ G ∧ (∀ t, t ∈ nb a → lkM f (a ++ t) = 0 → lkM r.2.2 t ≠ 0) ∧
    ∀ S : List Int → Prop, (∀ s, s ∈ A → S s) → shutF nb f S → S a
theorem send_ok {nb : List Int → List (List Int)} (hnb : ∀ a, isC a → ∀ t, t ∈ nb a → isC t ∧ t ≠ a) {A G : List (List Int)} {n : Nat} (hA : ∀ s, s ∈ A → isC s) :
    ∀ (ss : List (List Int)) (f m : FL), (∀ t, t ∈ ss → t ∈ A) → FlOk nb f → un m < n → SendOk nb A G f m ss (sendN nb G n ss f m) := by
  intro ss
  induction ss with
  | nil =>
    intro f m _ hf hun
    exact ⟨fun a ha => ha, fun h => (by cases h), fun _ => ⟨rfl, fun t ht => (by cases ht), fun a _ h0 h1 => absurd h0 h1⟩⟩
  | cons s ss ih =>
    intro f m hss hf hun
    have hsA := hss s List.mem_cons_self
    have hs := hA s hsA
    unfold sendN
    split
    case isFalse hc =>
      have := ih f m (fun x hx => hss x (List.mem_cons_of_mem _ hx)) hf hun
      refine ⟨this.gr, this.yes, fun h => ?_⟩
      obtain ⟨h1, h2, h3⟩ := this.no h
      refine ⟨h1, fun x hx => ?_, h3⟩
      rcases List.mem_cons.1 hx with rfl | hx
      · exact this.gr _ hc
      · exact h2 x hx
    case isTrue hc =>
      have hP := push_ok hnb (G := G) n f m s hs hf hc hun
      generalize pushN nb G n f m s = r at *
      split
      · rename_i hr
        obtain ⟨⟨g, hg, hgc, hD⟩, hF, -⟩ := hP.yes hr
        exact ⟨hP.gr, fun _ => ⟨⟨s, g, hsA, hg, hs, hgc, hD⟩, hF⟩, fun h => (by cases h)⟩
      · rename_i hr
        have hr : r.1 = false := by cases h : r.1 with | true => exact absurd h hr | false => rfl
        obtain ⟨h1, h2, h3⟩ := hP.no hr
        rw [h1]
        have hL := ih f r.2.2 (fun x hx => hss x (List.mem_cons_of_mem _ hx)) hf (Nat.lt_of_le_of_lt (un_mono hP.gr) hun)
        refine ⟨grM_trans hP.gr hL.gr, hL.yes, fun h => ?_⟩
        obtain ⟨q1, q2, q3⟩ := hL.no h
        refine ⟨q1, fun x hx => ?_, fun a ha ha0 ha1 => ?_⟩
        · rcases List.mem_cons.1 hx with rfl | hx
          · exact hL.gr _ h2
          · exact q2 x hx
        · by_cases hm : lkM r.2.2 a = 0
          · exact q3 a ha hm ha1
          · obtain ⟨p1, p2, p3⟩ := h3 a ha ha0 hm
            exact ⟨p1, fun x hx hx0 => hL.gr _ (p2 x hx hx0), fun S hSA hS => p3 S (hSA s hsA) hS⟩
end Go.Proofs.Ytjbgjgkogmlpfaa.Fl
