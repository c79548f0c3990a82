/- A search over a table of flows, plain: the search itself. -/
import Derived.Test.YtjbgjgkogmlpfaaAug
namespace Go.Proofs.Ytjbgjgkogmlpfaa.Fl
open Go Go.Eng
set_option linter.unusedSimpArgs false
set_option linter.unusedVariables false
set_option maxRecDepth 100000
set_option maxHeartbeats 4000000

/-- Seen, by which side, queue. -/
abbrev BS := List Int × List Int × List (List Int)
def sideS (go : List Int → Int → Bool) (fl : List Int) (now : List Int) (st : BS) (d : Int) : BS :=
  if go now d = true ∧ st.1.getD (ix (ah now d)) 0 = 0 ∧ ¬ 0 < fAt fl now d then (st.1.set (ix (ah now d)) 1, st.2.1.set (ix (ah now d)) ((d + 2) % 4), st.2.2 ++ [ah now d]) else st
def sidesS (go : List Int → Int → Bool) (fl : List Int) (now : List Int) (st : BS) : Nat → BS
  | 0 => st
  | d + 1 => sideS go fl now (sidesS go fl now st d) d
def backF (by' : List Int) : Nat → List Int → List Int → List Int
  | 0, fl, _ => fl
  | n + 1, fl, now => if by'.getD (ix now) 0 < 0 then fl else backF by' n (fAdd fl (ah now (by'.getD (ix now) 0)) ((by'.getD (ix now) 0 + 2) % 4)) (ah now (by'.getD (ix now) 0))
def reachN (go : List Int → Int → Bool) (B fl : List Int) : Nat → Nat → BS → List Int × List Int × Bool
  | 0, _, st => (fl, st.1, false)
  | n + 1, i, st => if i < st.2.2.length then
      (if B.getD (ix (st.2.2.getD i [])) 0 ≠ 0 then (backF st.2.1 100 fl (st.2.2.getD i []), st.1, true) else reachN go B fl n (i + 1) (sidesS go fl (st.2.2.getD i []) st 4))
    else (fl, st.1, false)

structure GoOk (nb : List Int → List (List Int)) (go : List Int → Int → Bool) : Prop where
  step : ∀ s, isC s → ∀ d : Int, 0 ≤ d → d < 4 → go s d = true → isC (ah s d)
  back : ∀ s, isC s → ∀ d : Int, 0 ≤ d → d < 4 → go s d = true → go (ah s d) ((d + 2) % 4) = true ∧ ah (ah s d) ((d + 2) % 4) = s
  nb : ∀ s, isC s → ∀ t, t ∈ nb s ↔ ∃ d : Int, 0 ≤ d ∧ d < 4 ∧ go s d = true ∧ t = ah s d
structure BOk (go : List Int → Int → Bool) (A : List (List Int)) (fl : List Int) (st : BS) : Prop where
  l1 : st.1.length = 100
  l2 : st.2.1.length = 100
  cells : ∀ s, s ∈ st.2.2 → isC s
  nd : st.2.2.Nodup
  bit : ∀ k, k < 100 → st.1.getD k 0 = 0 ∨ st.1.getD k 0 = 1
  seen : ∀ k, k < 100 → (st.1.getD k 0 ≠ 0 ↔ cl k ∈ st.2.2)
  par : ∀ j, j < st.2.2.length → (st.2.1.getD (ix (st.2.2.getD j [])) 0 = -1 ∧ st.2.2.getD j [] ∈ A) ∨
    ∃ j', j' < j ∧ 0 ≤ st.2.1.getD (ix (st.2.2.getD j [])) 0 ∧ st.2.1.getD (ix (st.2.2.getD j [])) 0 < 4 ∧ ah (st.2.2.getD j []) (st.2.1.getD (ix (st.2.2.getD j [])) 0) = st.2.2.getD j' [] ∧
      go (st.2.2.getD j' []) ((st.2.1.getD (ix (st.2.2.getD j [])) 0 + 2) % 4) = true ∧ ah (st.2.2.getD j' []) ((st.2.1.getD (ix (st.2.2.getD j [])) 0 + 2) % 4) = st.2.2.getD j [] ∧
      fAt fl (st.2.2.getD j' []) ((st.2.1.getD (ix (st.2.2.getD j [])) 0 + 2) % 4) ≤ 0
  least : ∀ S : List Int → Prop, (∀ s, s ∈ A → S s) → (∀ s, isC s → S s → ∀ d : Int, 0 ≤ d → d < 4 → go s d = true → fAt fl s d ≤ 0 → S (ah s d)) → ∀ s, s ∈ st.2.2 → S s
theorem app_get {l : List (List Int)} {x : List Int} {j : Nat} (h : j < l.length) : (l ++ [x]).getD j [] = l.getD j [] := by
  rw [List.getD_eq_getElem?_getD, List.getElem?_append_left h, List.getD_eq_getElem?_getD]
theorem app_last {l : List (List Int)} {x : List Int} : (l ++ [x]).getD l.length [] = x := by
  rw [List.getD_eq_getElem?_getD, List.getElem?_append_right (Nat.le_refl _), Nat.sub_self]; rfl
theorem get_mem {l : List (List Int)} {j : Nat} (h : j < l.length) : l.getD j [] ∈ l := by
  rw [List.getD_eq_getElem?_getD, List.getElem?_eq_getElem h]; exact List.getElem_mem h
theorem two_mod {d : Int} (h0 : 0 ≤ d) (h4 : d < 4) : ((d + 2) % 4 + 2) % 4 = d := by omega
theorem BOk.side {nb : List Int → List (List Int)} {go : List Int → Int → Bool} (hgo : GoOk nb go) {A : List (List Int)} {fl : List Int} {st : BS} (h : BOk go A fl st) {i : Nat} (hi : i < st.2.2.length) {now : List Int} (hn : st.2.2.getD i [] = now) {d : Int} (h0 : 0 ≤ d) (h4 : d < 4) :
    BOk go A fl (sideS go fl now st d) ∧ (∃ r, (sideS go fl now st d).2.2 = st.2.2 ++ r) ∧ (go now d = true → fAt fl now d ≤ 0 → ah now d ∈ (sideS go fl now st d).2.2) := by
  have hnc : isC now := by rw [← hn]; exact h.cells _ (get_mem hi)
  unfold sideS
  split
  · rename_i hc
    obtain ⟨c1, c2, c3⟩ := hc
    have hac := hgo.step now hnc d h0 h4 c1
    obtain ⟨b1, b2⟩ := hgo.back now hnc d h0 h4 c1
    obtain ⟨e1, e2⟩ := cl_ix hac
    have hnew : ah now d ∉ st.2.2 := fun g => (h.seen _ e2).2 (by rw [e1]; exact g) c2
    have hne : ∀ j, j < st.2.2.length → ix (st.2.2.getD j []) ≠ ix (ah now d) := fun j hj e => hnew (by rw [← ix_inj (h.cells _ (get_mem hj)) hac e]; exact get_mem hj)
    refine ⟨⟨by rw [List.length_set]; exact h.l1, by rw [List.length_set]; exact h.l2, fun s hs => ?_, ?_, fun k hk => ?_, fun k hk => ?_, fun j hj => ?_, fun S hA hS s hs => ?_⟩, ⟨[ah now d], rfl⟩, fun _ _ => List.mem_append_right _ (List.mem_singleton.2 rfl)⟩
    · rcases List.mem_append.1 hs with hs | hs
      · exact h.cells s hs
      · rw [List.mem_singleton.1 hs]; exact hac
    · rw [List.nodup_append]
      exact ⟨h.nd, by simp, fun a ha b hb e => hnew (by rw [← List.mem_singleton.1 hb, ← e]; exact ha)⟩
    · show (st.1.set _ 1).getD k 0 = 0 ∨ (st.1.set _ 1).getD k 0 = 1
      rw [set_at (by rw [h.l1]; exact hk)]
      split
      · exact .inr rfl
      · exact h.bit k hk
    · show (st.1.set _ 1).getD k 0 ≠ 0 ↔ cl k ∈ st.2.2 ++ [ah now d]
      rw [set_at (by rw [h.l1]; exact hk), List.mem_append, List.mem_singleton]
      by_cases e : ix (ah now d) = k
      · rw [if_pos e]
        exact ⟨fun _ => .inr (by rw [← e, e1]), fun _ => by decide⟩
      · rw [if_neg e, h.seen k hk]
        exact ⟨.inl, fun g => g.elim id fun g => absurd (by rw [← g, ix_cl hk]) e⟩
    · have hj : j < (st.2.2 ++ [ah now d]).length := hj
      rw [List.length_append] at hj
      by_cases hjl : j < st.2.2.length
      · have eb : (st.2.1.set (ix (ah now d)) ((d + 2) % 4)).getD (ix (st.2.2.getD j [])) 0 = st.2.1.getD (ix (st.2.2.getD j [])) 0 := by
          rw [set_at (by rw [h.l2]; exact (cl_ix (h.cells _ (get_mem hjl))).2), if_neg fun e => hne j hjl e.symm]
        show (_ = -1 ∧ _) ∨ _
        simp only [app_get hjl, eb]
        rcases h.par j hjl with g | ⟨j', g1, g⟩
        · exact .inl g
        · refine .inr ⟨j', g1, ?_⟩
          rw [app_get (by omega)]; exact g
      · have hj : j = st.2.2.length := by simp only [List.length_cons, List.length_nil] at hj; omega
        subst hj
        have eb : (st.2.1.set (ix (ah now d)) ((d + 2) % 4)).getD (ix (ah now d)) 0 = (d + 2) % 4 := by
          rw [set_at (by rw [h.l2]; exact e2), if_pos rfl]
        refine .inr ⟨i, hi, ?_⟩
        simp only [app_last, eb, app_get hi, hn, two_mod h0 h4]
        exact ⟨by omega, by omega, b2, c1, trivial, by omega⟩
    · rcases List.mem_append.1 hs with hs | hs
      · exact h.least S hA hS s hs
      · rw [List.mem_singleton.1 hs]
        exact hS now hnc (by rw [← hn]; exact h.least S hA hS _ (get_mem hi)) d h0 h4 c1 (by omega)
  · rename_i hc
    refine ⟨h, ⟨[], (List.append_nil _).symm⟩, fun c1 c3 => ?_⟩
    have hac := hgo.step now hnc d h0 h4 c1
    obtain ⟨e1, e2⟩ := cl_ix hac
    have := (h.seen _ e2).1 fun g => hc ⟨c1, g, by omega⟩
    rw [e1] at this
    exact this
theorem BOk.sides {nb : List Int → List (List Int)} {go : List Int → Int → Bool} (hgo : GoOk nb go) {A : List (List Int)} {fl : List Int} {st : BS} (h : BOk go A fl st) {i : Nat} (hi : i < st.2.2.length) {now : List Int} (hn : st.2.2.getD i [] = now) :
    ∀ d : Nat, d ≤ 4 → BOk go A fl (sidesS go fl now st d) ∧ (∃ r, (sidesS go fl now st d).2.2 = st.2.2 ++ r) ∧ (∀ e : Nat, e < d → go now (e : Int) = true → fAt fl now (e : Int) ≤ 0 → ah now (e : Int) ∈ (sidesS go fl now st d).2.2)
  | 0, _ => ⟨h, ⟨[], (List.append_nil _).symm⟩, fun e he => by omega⟩
  | d + 1, hd => by
    obtain ⟨h1, ⟨r, h2⟩, h3⟩ := BOk.sides hgo h hi hn d (by omega)
    obtain ⟨q1, ⟨r', q2⟩, q3⟩ := h1.side hgo (i := i) (now := now) (d := (d : Int)) (by rw [h2, List.length_append]; omega) (by rw [h2, List.getD_eq_getElem?_getD, List.getElem?_append_left hi, ← List.getD_eq_getElem?_getD]; exact hn) (by omega) (by omega)
    refine ⟨q1, ⟨r ++ r', by show (sideS go fl now (sidesS go fl now st d) d).2.2 = _; rw [q2, h2, List.append_assoc]⟩, fun e he g1 g2 => ?_⟩
    by_cases hed : e = d
    · subst hed; exact q3 g1 g2
    · show _ ∈ (sideS go fl now (sidesS go fl now st d) d).2.2
      rw [q2]; exact List.mem_append_left _ (h3 e (by omega) g1 g2)
theorem nd_len : ∀ (n : Nat) (l : List Nat), l.Nodup → (∀ x, x ∈ l → x < n) → l.length ≤ n
  | 0, [], _, _ => Nat.le_refl _
  | 0, x :: _, _, h => absurd (h x List.mem_cons_self) (Nat.not_lt_zero _)
  | n + 1, l, hn, h => by
    by_cases hm : n ∈ l
    · have h1 := nd_len n (l.erase n) (hn.erase n) fun x hx => by
        have h2 := (List.Nodup.mem_erase_iff hn).1 hx
        have := h x h2.2
        have := h2.1
        omega
      have h3 := List.length_erase_of_mem hm
      omega
    · have h1 := nd_len n l hn fun x hx => by
        have := h x hx
        have : x ≠ n := fun e => hm (by rw [← e]; exact hx)
        omega
      omega
theorem BOk.len {go : List Int → Int → Bool} {A : List (List Int)} {fl : List Int} {st : BS} (h : BOk go A fl st) : st.2.2.length ≤ 100 := by
  have h1 : (st.2.2.map ix).Nodup := by
    refine List.Pairwise.map _ (fun a b hab => hab) (List.Pairwise.imp_of_mem (fun {a b} ha hb (hab : a ≠ b) (e : ix a = ix b) => hab (ix_inj (h.cells a ha) (h.cells b hb) e)) h.nd)
  have h2 : ∀ x, x ∈ st.2.2.map ix → x ∈ List.range 100 := fun x hx => by
    obtain ⟨s, hs, rfl⟩ := List.mem_map.1 hx
    exact List.mem_range.2 (cl_ix (h.cells s hs)).2
  have h4 := nd_len 100 _ h1 fun x hx => List.mem_range.1 (h2 x hx)
  rwa [List.length_map] at h4

/-! The way back. -/
theorem back_ok {nb : List Int → List (List Int)} {go : List Int → Int → Bool} (hgo : GoOk nb go) {A : List (List Int)} {fl : List Int} {st : BS} (h : BOk go A fl st) :
    ∀ (j : Nat), j < st.2.2.length → ∀ (n : Nat) (f : List Int), j < n → f.length = 200 → (∀ u v, u < 100 → v < 100 → matT f u v ≤ capI nb u v) →
      (∀ k, k ≤ j → 0 ≤ st.2.1.getD (ix (st.2.2.getD k [])) 0 → matT f (ix (ah (st.2.2.getD k []) (st.2.1.getD (ix (st.2.2.getD k [])) 0))) (ix (st.2.2.getD k [])) ≤ 0) →
      (backF st.2.1 n f (st.2.2.getD j [])).length = 200 ∧ (∀ u v, u < 100 → v < 100 → matT (backF st.2.1 n f (st.2.2.getD j [])) u v ≤ capI nb u v) ∧
      ∃ s, s ∈ A ∧ isC s ∧ ∀ u, u < 100 → sgN (matT (backF st.2.1 n f (st.2.2.getD j [])) u) 100 = sgN (matT f u) 100 + (if cl u = s then 1 else 0) - (if cl u = st.2.2.getD j [] then 1 else 0) := by
  intro j
  induction j using Nat.strongRecOn with
  | ind j ih =>
    intro hj n f hn hl hcap hres
    obtain ⟨n, rfl⟩ : ∃ m, n = m + 1 := ⟨n - 1, by omega⟩
    have hsc := h.cells _ (get_mem hj)
    unfold backF
    rcases h.par j hj with ⟨g1, g2⟩ | ⟨j', g1, g2, g3, g4, g5, g6, g7⟩
    · rw [g1, if_pos (by decide)]
      refine ⟨hl, hcap, _, g2, hsc, fun u hu => by omega⟩
    · have hj' : j' < st.2.2.length := by omega
      have hbc := h.cells _ (get_mem hj')
      rw [if_neg (by omega), g4]
      have hr := hres j (Nat.le_refl _) g2
      rw [g4] at hr
      obtain ⟨x1, x2⟩ := cl_ix hsc
      obtain ⟨y1, y2⟩ := cl_ix hbc
      generalize st.2.1.getD (ix (st.2.2.getD j [])) 0 = d at *
      have hm : ∀ a b, a < 100 → b < 100 → matT (fAdd f (st.2.2.getD j' []) ((d + 2) % 4)) a b = matT f a b + (if a = ix (st.2.2.getD j' []) ∧ b = ix (st.2.2.getD j []) then 1 else 0) - (if a = ix (st.2.2.getD j []) ∧ b = ix (st.2.2.getD j' []) then 1 else 0) := fun a b ha hb => by
        have := fAdd_mat (fl := f) hl (u := ix (st.2.2.getD j' [])) (v := ix (st.2.2.getD j [])) (d := (d + 2) % 4) (by omega) y2 x2 (by rw [y1, x1]; exact g6) ha hb
        rw [y1] at this; exact this
      have hlen := fAdd_len f (st.2.2.getD j' []) ((d + 2) % 4)
      have hopen : capI nb (ix (st.2.2.getD j' [])) (ix (st.2.2.getD j [])) = 1 := by
        unfold capI
        rw [y1, x1]
        exact if_pos ((hgo.nb _ hbc _).2 ⟨(d + 2) % 4, by omega, by omega, g5, g6.symm⟩)
      generalize hf' : fAdd f (st.2.2.getD j' []) ((d + 2) % 4) = f' at *
      obtain ⟨q1, q2, s, q3, q4, q5⟩ := ih j' g1 hj' n f' (by omega) (by omega) (fun u v hu hv => by
        rw [hm u v hu hv]
        by_cases e1 : u = ix (st.2.2.getD j' []) ∧ v = ix (st.2.2.getD j [])
        · obtain ⟨rfl, rfl⟩ := e1
          rw [hopen, if_pos ⟨rfl, rfl⟩]
          split <;> omega
        · rw [if_neg e1]
          have := hcap u v hu hv
          split <;> omega) (fun k hk hb => by
        have hkl : k < st.2.2.length := by omega
        have hkc := h.cells _ (get_mem hkl)
        rcases h.par k hkl with ⟨p1, -⟩ | ⟨k', p1, p2, p3, p4, -⟩
        · omega
        · have hk'c := h.cells _ (get_mem (show k' < st.2.2.length by omega))
          have hr := hres k (by omega) hb
          rw [p4] at hr ⊢
          rw [hm _ _ (cl_ix hk'c).2 (cl_ix hkc).2, if_neg (fun e => ?_)]
          · split <;> omega
          · have e2 := ix_inj hkc hsc e.2
            rw [List.getD_eq_getElem?_getD, List.getElem?_eq_getElem hkl, List.getD_eq_getElem?_getD, List.getElem?_eq_getElem hj] at e2
            exact absurd e2 (List.pairwise_iff_getElem.1 h.nd k j hkl hj (by omega)))
      refine ⟨q1, q2, s, q3, q4, fun u hu => ?_⟩
      rw [q5 u hu, sum_move (F := matT f) (F' := matT f') (ks := ix (st.2.2.getD j' [])) (kt := ix (st.2.2.getD j [])) y2 x2 (fun v hv => hm u v hu hv)]
      have z1 : (u = ix (st.2.2.getD j' [])) = (cl u = st.2.2.getD j' []) := propext ⟨fun e => by rw [e, y1], fun e => by rw [← e, ix_cl hu]⟩
      have z2 : (u = ix (st.2.2.getD j [])) = (cl u = st.2.2.getD j []) := propext ⟨fun e => by rw [e, x1], fun e => by rw [← e, ix_cl hu]⟩
      simp only [z1, z2]
      omega

/-- What holds on the way back, at the queue's place j. -/
structure BkInv (nb : List Int → List (List Int)) (st : BS) (j : Nat) (f : List Int) : Prop where
  len : f.length = 200
  cap : ∀ u v, u < 100 → v < 100 → matT f u v ≤ capI nb u v
  res : ∀ k, k ≤ j → 0 ≤ st.2.1.getD (ix (st.2.2.getD k [])) 0 → matT f (ix (ah (st.2.2.getD k []) (st.2.1.getD (ix (st.2.2.getD k [])) 0))) (ix (st.2.2.getD k [])) ≤ 0
theorem matT_anti (fl : List Int) (u v : Nat) : matT fl u v = - matT fl v u := by unfold matT; omega
theorem back_step {nb : List Int → List (List Int)} {go : List Int → Int → Bool} (hgo : GoOk nb go) {A : List (List Int)} {fl : List Int} {st : BS} (h : BOk go A fl st) {j : Nat} (hj : j < st.2.2.length) {f : List Int} (hI : BkInv nb st j f)
    (hb : 0 ≤ st.2.1.getD (ix (st.2.2.getD j [])) 0) :
    ∃ j' d, j' < j ∧ st.2.1.getD (ix (st.2.2.getD j [])) 0 = d ∧ d < 4 ∧ ah (st.2.2.getD j []) d = st.2.2.getD j' [] ∧ go (st.2.2.getD j' []) ((d + 2) % 4) = true ∧ ah (st.2.2.getD j' []) ((d + 2) % 4) = st.2.2.getD j [] ∧
      -1 ≤ fAt f (st.2.2.getD j' []) ((d + 2) % 4) ∧ fAt f (st.2.2.getD j' []) ((d + 2) % 4) ≤ 0 ∧ BkInv nb st j' (fAdd f (st.2.2.getD j' []) ((d + 2) % 4)) := by
  obtain ⟨hl, hcap, hres⟩ := hI
  have hsc := h.cells _ (get_mem hj)
  rcases h.par j hj with ⟨g1, g2⟩ | ⟨j', g1, g2, g3, g4, g5, g6, g7⟩
  · omega
  · have hj' : j' < st.2.2.length := by omega
    have hbc := h.cells _ (get_mem hj')
    have hr := hres j (Nat.le_refl _) g2
    rw [g4] at hr
    obtain ⟨x1, x2⟩ := cl_ix hsc
    obtain ⟨y1, y2⟩ := cl_ix hbc
    refine ⟨j', _, g1, rfl, g3, g4, g5, g6, ?_⟩
    generalize st.2.1.getD (ix (st.2.2.getD j [])) 0 = d at *
    have hat := fAt_mat (fl := f) (u := ix (st.2.2.getD j' [])) (v := ix (st.2.2.getD j [])) (d := (d + 2) % 4) (by omega) y2 x2 (by rw [y1, x1]; exact g6)
    rw [y1] at hat
    have hm : ∀ a b, a < 100 → b < 100 → matT (fAdd f (st.2.2.getD j' []) ((d + 2) % 4)) a b = matT f a b + (if a = ix (st.2.2.getD j' []) ∧ b = ix (st.2.2.getD j []) then 1 else 0) - (if a = ix (st.2.2.getD j []) ∧ b = ix (st.2.2.getD j' []) then 1 else 0) := fun a b ha hb => by
      have := fAdd_mat (fl := f) hl (u := ix (st.2.2.getD j' [])) (v := ix (st.2.2.getD j [])) (d := (d + 2) % 4) (by omega) y2 x2 (by rw [y1, x1]; exact g6) ha hb
      rw [y1] at this; exact this
    have hlen := fAdd_len f (st.2.2.getD j' []) ((d + 2) % 4)
    have hopen : capI nb (ix (st.2.2.getD j' [])) (ix (st.2.2.getD j [])) = 1 := by
      unfold capI
      rw [y1, x1]
      exact if_pos ((hgo.nb _ hbc _).2 ⟨(d + 2) % 4, by omega, by omega, g5, g6.symm⟩)
    have hanti := matT_anti f (ix (st.2.2.getD j' [])) (ix (st.2.2.getD j []))
    have hrev := hcap _ _ x2 y2
    have hle1 := capI_le nb (ix (st.2.2.getD j [])) (ix (st.2.2.getD j' []))
    refine ⟨by omega, by omega, by omega, fun u v hu hv => ?_, fun k hk hb => ?_⟩
    · rw [hm u v hu hv]
      by_cases e1 : u = ix (st.2.2.getD j' []) ∧ v = ix (st.2.2.getD j [])
      · obtain ⟨rfl, rfl⟩ := e1
        rw [hopen, if_pos ⟨rfl, rfl⟩]
        split <;> omega
      · rw [if_neg e1]
        have := hcap u v hu hv
        split <;> omega
    · have hkl : k < st.2.2.length := by omega
      have hkc := h.cells _ (get_mem hkl)
      rcases h.par k hkl with ⟨p1, -⟩ | ⟨k', p1, p2, p3, p4, -⟩
      · omega
      · have hk'c := h.cells _ (get_mem (show k' < st.2.2.length by omega))
        have hr := hres k (by omega) hb
        rw [p4] at hr ⊢
        rw [hm _ _ (cl_ix hk'c).2 (cl_ix hkc).2, if_neg (fun e => ?_)]
        · split <;> omega
        · have e2 := ix_inj hkc hsc e.2
          rw [List.getD_eq_getElem?_getD, List.getElem?_eq_getElem hkl, List.getD_eq_getElem?_getD, List.getElem?_eq_getElem hj] at e2
          exact absurd e2 (List.pairwise_iff_getElem.1 h.nd k j hkl hj (by omega))

/-! The whole search. -/
structure TabInv (nb : List Int → List (List Int)) (A G : List (List Int)) (fl : List Int) : Prop where
  len : fl.length = 200
  flow : Flw nb A G (matT fl)
theorem TabInv.bk {nb : List Int → List (List Int)} {go : List Int → Int → Bool} {A G : List (List Int)} {fl : List Int} (hT : TabInv nb A G fl) {st : BS} (h : BOk go A fl st) {i : Nat} (hi : i < st.2.2.length) : BkInv nb st i fl where
  len := hT.len
  cap := hT.flow.cap
  res := fun k hk hb => by
    have hkl : k < st.2.2.length := by omega
    rcases h.par k hkl with ⟨p1, -⟩ | ⟨k', p1, p2, p3, p4, p5, p6, p7⟩
    · omega
    · have hk'c := h.cells _ (get_mem (show k' < st.2.2.length by omega))
      have hkc := h.cells _ (get_mem hkl)
      rw [p4, ← fAt_mat (d := (st.2.1.getD (ix (st.2.2.getD k [])) 0 + 2) % 4) (by omega) (cl_ix hk'c).2 (cl_ix hkc).2 (by rw [(cl_ix hk'c).1, (cl_ix hkc).1]; exact p6), (cl_ix hk'c).1]
      exact p7
structure ReachOk (nb : List Int → List (List Int)) (A G : List (List Int)) (fl : List Int) (r : List Int × List Int × Bool) : Prop where
  len : r.2.1.length = 100
  bit : ∀ k, k < 100 → r.2.1.getD k 0 = 0 ∨ r.2.1.getD k 0 = 1
  yes : r.2.2 = true → TabInv nb A G r.1 ∧ valL A (matT r.1) = valL A (matT fl) + 1
  no : r.2.2 = false → r.1 = fl ∧ NearF nb A G (matT fl) (fun k => r.2.1.getD k 0 ≠ 0)
theorem reach_ok {nb : List Int → List (List Int)} {go : List Int → Int → Bool} (hgo : GoOk nb go) {A G : List (List Int)} (hA : ∀ s, s ∈ A → isC s) (hd : ∀ s, s ∈ A → s ∉ G) {fl B : List Int} (hT : TabInv nb A G fl) (hB : ∀ k, k < 100 → (B.getD k 0 ≠ 0 ↔ cl k ∈ G)) :
    ∀ (n i : Nat) (st : BS), BOk go A fl st → (∀ s, s ∈ A → s ∈ st.2.2) → i ≤ st.2.2.length → 100 < n + i →
      (∀ j, j < i → st.2.2.getD j [] ∉ G ∧ ∀ e : Nat, e < 4 → go (st.2.2.getD j []) (e : Int) = true → fAt fl (st.2.2.getD j []) (e : Int) ≤ 0 → ah (st.2.2.getD j []) (e : Int) ∈ st.2.2) → ReachOk nb A G fl (reachN go B fl n i st) := by
  intro n
  induction n with
  | zero => intro i st h _ hi hn; have := h.len; omega
  | succ n ih =>
    intro i st h hAq hi hn hdone
    unfold reachN
    split
    · rename_i hlt
      have hnc := h.cells _ (get_mem hlt)
      obtain ⟨x1, x2⟩ := cl_ix hnc
      split
      · rename_i hb
        have hg : st.2.2.getD i [] ∈ G := by have := (hB _ x2).1 hb; rwa [x1] at this
        obtain ⟨q1, q2, s, q3, q4, q5⟩ := back_ok hgo h i hlt 100 fl (by have := h.len; omega) hT.len hT.flow.cap fun k hk hb => by
          have hkl : k < st.2.2.length := by omega
          rcases h.par k hkl with ⟨p1, -⟩ | ⟨k', p1, p2, p3, p4, p5, p6, p7⟩
          · omega
          · have hk'c := h.cells _ (get_mem (show k' < st.2.2.length by omega))
            have hkc := h.cells _ (get_mem hkl)
            rw [p4, ← fAt_mat (d := (st.2.1.getD (ix (st.2.2.getD k [])) 0 + 2) % 4) (by omega) (cl_ix hk'c).2 (cl_ix hkc).2 (by rw [(cl_ix hk'c).1, (cl_ix hkc).1]; exact p6), (cl_ix hk'c).1]
            exact p7
        refine ⟨h.l1, h.bit, fun _ => ⟨⟨q1, ⟨matT_anti _, q2, fun u hu ha hgu => ?_⟩⟩, valL_up hd q3 hg q4 q5⟩, fun g => (by cases g)⟩
        show sgN (matT (backF st.2.1 100 fl (st.2.2.getD i [])) u) 100 = 0
        rw [q5 u hu, if_neg (fun e => ha (show cl u ∈ A by rw [e]; exact q3)), if_neg (fun e => hgu (show cl u ∈ G by rw [e]; exact hg))]
        have := hT.flow.cons u hu ha hgu
        omega
      · rename_i hb
        have hng : st.2.2.getD i [] ∉ G := fun g => hb ((hB _ x2).2 (by rw [x1]; exact g))
        obtain ⟨h1, ⟨r, h2⟩, h3⟩ := h.sides hgo hlt rfl 4 (Nat.le_refl 4)
        refine ih (i + 1) _ h1 (fun s hs => by rw [h2]; exact List.mem_append_left _ (hAq s hs)) (by rw [h2, List.length_append]; omega) (by omega) fun j hj => ?_
        by_cases hji : j = i
        · subst hji
          have e : (sidesS go fl (st.2.2.getD j []) st 4).2.2.getD j [] = st.2.2.getD j [] := by
            rw [h2, List.getD_eq_getElem?_getD, List.getElem?_append_left hlt, ← List.getD_eq_getElem?_getD]
          rw [e]
          exact ⟨hng, h3⟩
        · have hjl : j < st.2.2.length := by omega
          have e : (sidesS go fl (st.2.2.getD i []) st 4).2.2.getD j [] = st.2.2.getD j [] := by
            rw [h2, List.getD_eq_getElem?_getD, List.getElem?_append_left hjl, ← List.getD_eq_getElem?_getD]
          rw [e]
          obtain ⟨d1, d2⟩ := hdone j (by omega)
          exact ⟨d1, fun e he g1 g2 => by rw [h2]; exact List.mem_append_left _ (d2 e he g1 g2)⟩
    · rename_i hlt
      have hall : ∀ s, s ∈ st.2.2 → s ∉ G ∧ ∀ e : Nat, e < 4 → go s (e : Int) = true → fAt fl s (e : Int) ≤ 0 → ah s (e : Int) ∈ st.2.2 := fun s hs => by
        obtain ⟨j, hj, rfl⟩ := List.getElem_of_mem hs
        have := hdone j (by omega)
        rwa [List.getD_eq_getElem?_getD, List.getElem?_eq_getElem hj] at this
      have free : ∀ u v, u < 100 → v < 100 → (matT fl u v < capI nb u v ↔ ∃ d : Int, 0 ≤ d ∧ d < 4 ∧ go (cl u) d = true ∧ cl v = ah (cl u) d ∧ fAt fl (cl u) d ≤ 0) := fun u v hu hv => by
        have huc : isC (cl u) := ⟨u, hu, rfl⟩
        constructor
        · intro hlt
          by_cases ho : cl v ∈ nb (cl u)
          · obtain ⟨d, d0, d4, d1, d2⟩ := (hgo.nb _ huc _).1 ho
            refine ⟨d, d0, d4, d1, d2, ?_⟩
            have e1 : capI nb u v = 1 := if_pos ho
            rw [fAt_mat ⟨d0, d4⟩ hu hv d2.symm]; omega
          · exfalso
            have e1 : capI nb u v = 0 := if_neg ho
            have e2 := hT.flow.cap v u hv hu
            have e3 := matT_anti fl u v
            have e4 : capI nb v u = 0 := if_neg fun g => by
              obtain ⟨d, d0, d4, d1, d2⟩ := (hgo.nb _ ⟨v, hv, rfl⟩ _).1 g
              obtain ⟨b1, b2⟩ := hgo.back _ ⟨v, hv, rfl⟩ d d0 d4 d1
              exact ho ((hgo.nb _ huc _).2 ⟨(d + 2) % 4, by omega, by omega, by rw [d2]; exact b1, by rw [d2, b2]⟩)
            omega
        · rintro ⟨d, d0, d4, d1, d2, d3⟩
          have e1 : capI nb u v = 1 := if_pos ((hgo.nb _ huc _).2 ⟨d, d0, d4, d1, d2⟩)
          rw [fAt_mat ⟨d0, d4⟩ hu hv d2.symm] at d3
          omega
      refine ⟨h.l1, h.bit, fun g => (by cases g), fun _ => ⟨rfl, fun u hu => ⟨fun ha => (h.seen u hu).2 (hAq _ ha), fun hs => (hall _ ((h.seen u hu).1 hs)).1⟩, fun u v hu hv hs hlt => ?_, fun S hSA hS u hu hs => ?_⟩⟩
      · obtain ⟨d, d0, d4, d1, d2, d3⟩ := (free u v hu hv).1 hlt
        have := (hall _ ((h.seen u hu).1 hs)).2 d.toNat (by omega)
        rw [Int.toNat_of_nonneg d0] at this
        exact (h.seen v hv).2 (by rw [d2]; exact this d1 d3)
      · have := h.least (fun a => ∃ k, k < 100 ∧ a = cl k ∧ S k) (fun s hs => by
          obtain ⟨k, hk, rfl⟩ := hA s hs
          exact ⟨k, hk, rfl, hSA k hk hs⟩) (fun a ha hSa d d0 d4 d1 d3 => by
          obtain ⟨k, hk, rfl, hSk⟩ := hSa
          obtain ⟨kt, hkt, e⟩ := hgo.step _ ⟨k, hk, rfl⟩ d d0 d4 d1
          exact ⟨kt, hkt, e, hS k kt hk hkt hSk ((free k kt hk hkt).2 ⟨d, d0, d4, d1, e.symm, d3⟩)⟩) (cl u) ((h.seen u hu).1 hs)
        obtain ⟨k, hk, e, hSk⟩ := this
        obtain rfl := cl_inj e
        exact hSk
/-- What lies on a side that is open is -1 to 1. -/
theorem TabInv.rng {nb : List Int → List (List Int)} {go : List Int → Int → Bool} (hgo : GoOk nb go) {A G : List (List Int)} {fl : List Int} (hT : TabInv nb A G fl) {s : List Int} (hs : isC s) {d : Int} (d0 : 0 ≤ d) (d4 : d < 4) (hg : go s d = true) : -1 ≤ fAt fl s d ∧ fAt fl s d ≤ 1 := by
  have hc := hgo.step s hs d d0 d4 hg
  obtain ⟨x1, x2⟩ := cl_ix hs
  obtain ⟨y1, y2⟩ := cl_ix hc
  have e := fAt_mat (fl := fl) (u := ix s) (v := ix (ah s d)) ⟨d0, d4⟩ x2 y2 (by rw [x1, y1])
  rw [x1] at e
  have h1 := hT.flow.cap _ _ x2 y2
  have h2 := hT.flow.cap _ _ y2 x2
  have h3 := matT_anti fl (ix s) (ix (ah s d))
  have h4 := capI_le nb (ix s) (ix (ah s d))
  have h5 := capI_le nb (ix (ah s d)) (ix s)
  omega
end Go.Proofs.Ytjbgjgkogmlpfaa.Fl
