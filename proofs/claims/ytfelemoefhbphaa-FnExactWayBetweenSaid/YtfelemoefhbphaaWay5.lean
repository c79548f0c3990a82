/- The way between two cells: the spec. -/
import Derived.Test.YtfelemoefhbphaaWay4
namespace Go.Proofs.Ytfelemoefhbphaa
open Go Go.Eng
set_option linter.unusedSimpArgs false
set_option linter.unusedVariables false
set_option maxRecDepth 100000
set_option maxHeartbeats 4000000

/-- Is a cell one nearer, by the spec's table? -/
def nrD (D s c : List Int) : Bool := decide (D.getD (cx c) 0 = D.getD (cx s) 0 - 1)
/-- The best so far. -/
def bK (D s : List Int) (L : List (List Int)) : Nat → Int
  | 0 => -1
  | k + 1 => if nrD D s (L.getD k []) = true ∧ (bK D s L k < 0 ∨ lessS (L.getD k []) (L.getD (bK D s L k).toNat []) = true) then (k : Int) else bK D s L k
theorem minW_snoc {F : List (List Int)} (c : List Int) (h : 0 < F.length) : minW (F ++ [c]) = if cmpI c (minW F) < 0 then c else minW F := by
  obtain ⟨n, hn⟩ : ∃ n, F.length = n + 1 := ⟨F.length - 1, by omega⟩
  have hm : ∀ i, i < F.length → minK (F ++ [c]) i = minK F i := by
    intro i
    induction i with
    | zero =>
      intro hi
      show (F ++ [c]).getD 0 [] = F.getD 0 []
      rw [List.getD_eq_getElem?_getD, List.getElem?_append_left hi, ← List.getD_eq_getElem?_getD]
    | succ i ih =>
      intro hi
      unfold minK
      rw [ih (by omega), List.getD_eq_getElem?_getD, List.getElem?_append_left hi, ← List.getD_eq_getElem?_getD]
  have e : (F ++ [c]).length - 1 = n + 1 := by simp; omega
  have e2 : F.length - 1 = n := by omega
  unfold minW
  rw [e, e2]
  have g : (F ++ [c]).getD (n + 1) [] = c := by rw [List.getD_eq_getElem?_getD, List.getElem?_append_right (by omega), hn, Nat.sub_self]; rfl
  show (if cmpI ((F ++ [c]).getD (n + 1) []) (minK (F ++ [c]) n) < 0 then (F ++ [c]).getD (n + 1) [] else minK (F ++ [c]) n) = _
  rw [g, hm n (by omega)]
theorem bK_ok {T D s : List Int} {L : List (List Int)} (hD : ∀ c ∈ L, delW T s c = !nrD D s c) : ∀ k, k ≤ L.length →
    (bK D s L k = -1 ∧ leftW T s (L.take k) = []) ∨ (0 ≤ bK D s L k ∧ bK D s L k < k ∧ 0 < (leftW T s (L.take k)).length ∧ L.getD (bK D s L k).toNat [] = minW (leftW T s (L.take k))) := by
  intro k
  induction k with
  | zero => intro _; exact .inl ⟨rfl, rfl⟩
  | succ k ih =>
    intro hk
    have ih := ih (by omega)
    have hm := hD _ (getD_mem (d := []) (show k < L.length by omega))
    rw [take_snocW L [] (show k < L.length by omega), filterW_snoc, hm]
    have e : bK D s L (k + 1) = if nrD D s (L.getD k []) = true ∧ (bK D s L k < 0 ∨ lessS (L.getD k []) (L.getD (bK D s L k).toNat []) = true) then (k : Int) else bK D s L k := rfl
    rw [e]
    by_cases hn : nrD D s (L.getD k []) = true
    · rw [hn]
      simp only [Bool.not_true, Bool.false_eq_true, if_false, true_and]
      rcases ih with ⟨h1, h2⟩ | ⟨h1, h2, h3, h4⟩
      · rw [h2, h1, if_pos (.inl (by decide))]
        exact .inr ⟨by omega, by omega, by simp, by simp [minW, minK]⟩
      · rw [minW_snoc _ h3]
        by_cases hl : lessS (L.getD k []) (L.getD (bK D s L k).toNat []) = true
        · rw [if_pos (.inr hl)]
          rw [h4] at hl
          rw [if_pos ((cmp_less _ _).2 hl)]
          exact .inr ⟨by omega, by omega, by simp, by simp⟩
        · rw [if_neg (fun h => h.elim (fun h => by omega) hl)]
          rw [h4] at hl
          rw [if_neg (fun h => hl ((cmp_less _ _).1 h))]
          exact .inr ⟨h1, by omega, by simp, h4⟩
    · rw [if_neg (fun h => hn h.1)]
      rw [Bool.not_eq_true] at hn
      rw [hn]
      simp only [Bool.not_false, if_true, List.append_nil]
      rcases ih with h | ⟨h1, h2, h3, h4⟩
      · exact .inl h
      · exact .inr ⟨h1, by omega, h3, h4⟩

def beforeS : Fun
  | [.ag .spot a, .ag .spot b], [] => some (.b (lessS a b), [], [])
  | _, _ => .none
set_option maxRecDepth 100000 in
theorem s_l01Before : Sound Try.prog 80 beforeS := by
  intro args M r M' vs h hvs
  unfold beforeS at h
  split at h
  case h_2 => cases h
  rename_i a b
  cases h
  refine SpecOK.assume fun hA hM => ?_
  have htb := (TbOk.nil : TbOk Try.prog tb0)
  refine SpecOK.of_goes [] Try.func80 rfl ?_
  obtain ⟨a0, a1, rfl⟩ := len2 hA.1
  obtain ⟨b0, b1, rfl⟩ := len2 hA.2.2.1
  clear hA hM
  refine Goes.tree Γ_ok htb 1000 false false Try.func80 rfl ?_
  ((try simp only [decide_eq_true_eq, decide_eq_false_iff_not, Bool.not_eq_true', Bool.not_eq_false', Bool.not_true, Bool.not_false, Bool.and_eq_true, Bool.or_eq_true, bne_iff_ne, beq_iff_eq, ne_eq]); (try simp only [rng, lo, hi, mnI, mxI, Int.toNat_natCast, Sg.n, Nat.mul_one, Nat.zero_add, Nat.add_zero, Nat.reduceAdd, List.getD_cons_zero, List.getD_cons_succ]))
  ((repeat' (first | (with_reducible apply And.intro) | intro _)); all_goals (first | exact trivial | (with_reducible assumption) | (show (_ : List Blk) = _; rfl) | (first | exact trivial | (with_reducible assumption) | omega | (split <;> omega) | (split <;> split <;> omega)) | skip); all_goals (try (refine ⟨rfl, (by first | exact Nat.le_refl _ | exact Nat.le_of_ble_eq_true rfl), rfl, rfl, ?_, (by repeat' (first | exact trivial | rfl | apply And.intro)), rfl, rfl⟩)))
  all_goals (try (refine sameA_b ?_; unfold lessS; simp [*]; done))
  all_goals trace_state

theorem bfs_one {p b s : List Int} (hd : okD p) (hb : isP p b = true) (hbl : b.length = 2) : (bfsD p [b]).getD (cx b) 0 = 1 := by
  have key : ∀ (k : Nat) (s : List Int), isP p s = true → s.length = 2 → 0 < (bfsD p [b]).getD (cx s) 0 → (bfsD p [b]).getD (cx s) 0 ≤ k → (bfsD p [b]).getD (cx b) 0 = 1 := by
    intro k
    induction k with
    | zero => intro s _ _ h1 h2; omega
    | succ k ih =>
      intro s hs hl h1 h2
      rcases bfs_prev hd hb hbl hs hl h1 with ⟨rfl, h⟩ | ⟨c, -, c1, c2, c3, c4⟩
      · exact h
      · exact ih c c1 c2 c3 (by omega)
  exact key ((bfsD p [b]).getD (cx b) 0).toNat b hb hbl (bfs_self (inG_isP hd hb)) (by omega)
theorem bfs_is {p b s : List Int} (hd : okD p) (hb : isP p b = true) (hbl : b.length = 2) (hs : isP p s = true) (hl : s.length = 2) (h : 0 < (bfsD p [b]).getD (cx s) 0) : s = b ↔ (bfsD p [b]).getD (cx s) 0 = 1 := by
  constructor
  · rintro rfl; exact bfs_one (s := s) hd hb hbl
  · intro e
    rcases bfs_prev hd hb hbl hs hl h with ⟨h1, -⟩ | ⟨c, -, c1, c2, c3, c4⟩
    · exact h1
    · omega
noncomputable def sWbS : Fun
  | [.ag .pas p, .ag .spot a, .ag .spot b], [] => some (.t2 (.fs .spot (if stepC p a b = 0 then wayL p a b else [])) (.i .i64 (stepC p a b)), [], [])
  | _, _ => .none
theorem sameA_fti {σ : Sg} {k : IntKind} {r q : List (List Int)} {c e : Int} (h : r = q) (h' : c = e) : sameA (.t2 (.fs σ r) (.i k c)) (.t2 (.fs σ q) (.i k e)) := by subst h; subst h'; exact sameA_refl _
set_option maxRecDepth 100000 in
theorem s_specWay : Sound Try.prog 32 sWbS := by
  intro args M r M' vs h hvs
  unfold sWbS at h
  split at h
  case h_2 => cases h
  rename_i p a b
  cases h
  refine SpecOK.assume fun hA hM => ?_
  have htb := (TbOk.cons s_l01Asked Try.func54 rfl rfl (TbOk.cons s_l01Is Try.func77 rfl rfl (TbOk.cons s_l01Steps Try.func78 rfl rfl (TbOk.cons s_l01Beside Try.func79 rfl rfl (TbOk.cons s_l01Before Try.func80 rfl rfl (TbOk.nil : TbOk Try.prog tb0))))))
  refine SpecOK.of_goes [] Try.func32 rfl ?_
  have la : a.length = 2 := hA.2.2.1
  have lb : b.length = 2 := hA.2.2.2.2.1
  have hok := fun h => codeP_pair (p := p) (a := a) (b := b) h
  have heq := codeP_asked p a b
  have hin := fun h => inG_isP (hok h).1 (hok h).2.1
  have hw := fun h => (bfsD_wf (p := p) (rows := [b]) (hok h).1 (one_isP (hok h).2.2)).2 (cx a)
  have hsy : codeP p [a, b] = 0 → ((bfsD p [a]).getD (cx b) 0 = 0 ↔ (bfsD p [b]).getD (cx a) 0 = 0) := fun h => by
    obtain ⟨h1, h2, h3⟩ := hok h
    have r1 := (bfsD_wf h1 (one_isP h2)).2 (cx b)
    have r2 := (bfsD_wf h1 (one_isP h3)).2 (cx a)
    constructor
    · intro e
      rcases Int.lt_or_le 0 ((bfsD p [b]).getD (cx a) 0) with g | g
      · have := bfs_sym h1 h3 lb h2 la g; omega
      · omega
    · intro e
      rcases Int.lt_or_le 0 ((bfsD p [a]).getD (cx b) 0) with g | g
      · have := bfs_sym h1 h2 la h3 lb g; omega
      · omega
  clear hA hM
  unfold inG at hin
  refine Goes.tree Γ_ok htb 1000 true false Try.func32 rfl ?_
  ((try simp only [decide_eq_true_eq, decide_eq_false_iff_not, Bool.not_eq_true', Bool.not_eq_false', Bool.not_true, Bool.not_false, Bool.and_eq_true, Bool.or_eq_true, bne_iff_ne, beq_iff_eq, ne_eq]); (try simp only [rng, lo, hi, mnI, mxI, Int.toNat_natCast, Sg.n, Nat.mul_one, Nat.zero_add, Nat.add_zero, Nat.reduceAdd, List.getD_cons_zero, List.getD_cons_succ, one_row]))
  rw [heq]
  ((repeat' (first | (with_reducible apply And.intro) | intro _)); all_goals (first | exact trivial | (with_reducible assumption) | (show (_ : List Blk) = _; rfl) | (first | exact trivial | (with_reducible assumption) | omega | (split <;> omega) | (split <;> split <;> omega)) | skip); all_goals (try (refine ⟨rfl, (by first | exact Nat.le_refl _ | exact Nat.le_of_ble_eq_true rfl), rfl, rfl, ?_, (by repeat' (first | exact trivial | rfl | apply And.intro)), rfl, rfl⟩)))
  all_goals (try first | exact (hok (by assumption)).1 | exact (hok (by assumption)).2.1 | exact (hok (by assumption)).2.2 | (have h1 := hin (by assumption); have h2 := hw (by assumption); unfold cx at h2; omega))
  · rename_i h
    refine sameA_fti ?_ ?_
    · rw [if_neg (by unfold stepC; rw [if_neg h]; exact h)]; rfl
    · unfold stepC; rw [if_neg h]
  · rename_i h h'
    have e : stepC p a b = 6 := by unfold stepC; rw [if_pos h, if_pos ((hsy h).2 h')]
    refine sameA_fti ?_ e
    rw [e, if_neg (by decide)]; rfl
  rename_i h h'
  have e : stepC p a b = 0 := by unfold stepC; rw [if_pos h, if_neg (fun g => h' ((hsy h).1 g))]
  rw [if_pos e, e]
  obtain ⟨hd, ha, hb⟩ := hok h
  have hr2 := (bfsD_wf hd (one_isP hb)).2
  have hlD := (bfsD_wf hd (one_isP hb)).1
  have hg : ∀ c, isP p c = true → (m1 (bfsD p [b])).getD (cx c) 0 = (bfsD p [b]).getD (cx c) 0 - 1 := fun c hc => m1_get (by rw [hlD]; exact cx_lt (inG_isP hd hc))
  have hfa : 0 < (bfsD p [b]).getD (cx a) 0 := by
    have := (hr2 (cx a)).1
    have h'' : ¬ (bfsD p [b]).getD (cx a) 0 = 0 := h'
    omega
  have hga := hg a ha
  have hK := wK_ok hd hb lb ha la (by omega)
  have hN := fun s h1 h2 h3 => nxt_ok (p := p) (b := b) (s := s) hd hb lb h1 h2 h3
  have hI := fun s h1 h2 h3 => bfs_is (s := s) hd hb lb h1 h2 h3
  unfold wayL
  clear hok heq hin hw hsy h h'
  generalize hT : m1 (bfsD p [b]) = T at *
  generalize hDD : bfsD p [b] = D at *
  refine ⟨?_⟩
  refine Goes.loopR (fun k : Nat => (T.getD (cx a) 0).toNat - k) (fun k => k ≤ (T.getD (cx a) 0).toNat) (fun k => (.any :: .any :: .any :: .pw 0 .pas :: .any :: .pw 1 .spot :: .any :: .any :: .any :: .pw 2 .lgrid :: .ow 3 (wK p T a k).2.length .spot 37 :: .pw 4 .spot :: .any :: .any :: .any :: .any :: .any :: .any :: .any :: .any :: .any :: .any :: .any :: .any :: .any :: .any :: .any :: .any :: .any :: .any :: .any :: .any :: .any :: .any :: .any :: .any :: .any :: .any :: .any :: .any :: .any :: .any :: .any :: .any :: .any :: .any :: .any :: .any :: .any :: .any :: .any :: .any :: .any :: .any :: .any :: .any :: .any :: .any :: .any :: .any :: .any :: .any :: .any :: .any :: .any :: .any :: .any :: .any :: .any :: .any :: .any :: .any :: .any :: .any :: .any :: .any :: .any :: .any :: .any :: .any :: .any :: .any :: .any :: .any :: .any :: .any :: .any :: .any :: .any :: .any :: .any :: .any :: .any :: .any :: .any :: .any :: .any :: .any :: []))
    (fun k => [.c .pas p, .c .spot b, .c .lgrid D, .l .spot (wK p T a k).2, .c .spot (wK p T a k).1]) 0 [0, 2, 3, 4, 5] (Nat.zero_le _) ⟨rfl, rfl, rfl, (by repeat' (first | exact trivial | rfl | apply And.intro)), (by repeat' (first | exact trivial | rfl | apply And.intro)), rfl, rfl, rfl⟩ fun k hk ihO => ?_
  obtain ⟨k1, k2, k3, k4⟩ := hK k (by omega)
  have hgk := hg _ k1
  have hra := hr2 (cx a)
  have hbI := hI _ k1 k2 (by omega)
  by_cases hlt : k < (T.getD (cx a) 0).toNat
  · have hne : ¬ (wK p T a k).1 = b := fun g => by have := hbI.1 g; omega
    obtain ⟨n1, n2, n3, n4⟩ := hN (wK p T a k).1 k1 k2 (by omega)
    refine Goes.tree Γ_ok htb 1000 true false Try.func32 rfl ?_
    ((try simp only [decide_eq_true_eq, decide_eq_false_iff_not, Bool.not_eq_true', Bool.not_eq_false', Bool.not_true, Bool.not_false, Bool.and_eq_true, Bool.or_eq_true, bne_iff_ne, beq_iff_eq, ne_eq]); (try simp only [rng, lo, hi, mnI, mxI, Int.toNat_natCast, Sg.n, Nat.mul_one, Nat.zero_add, Nat.add_zero, Nat.reduceAdd, List.getD_cons_zero, List.getD_cons_succ, one_row]))
    ((repeat' (first | (with_reducible apply And.intro) | intro _)); all_goals (first | exact trivial | (with_reducible assumption) | (show (_ : List Blk) = _; rfl) | (first | exact trivial | (with_reducible assumption) | omega | (split <;> omega) | (split <;> split <;> omega)) | skip); all_goals (try (refine ⟨rfl, (by first | exact Nat.le_refl _ | exact Nat.le_of_ble_eq_true rfl), rfl, rfl, ?_, (by repeat' (first | exact trivial | rfl | apply And.intro)), rfl, rfl⟩)))
    all_goals (try exact absurd (by assumption) hne)
    have hbg : ∀ c ∈ besN p (wK p T a k).1 4, isP p c = true ∧ c.length = 2 := fun c hc => by
      obtain ⟨e, -, e2, rfl⟩ := besN_go 4 hc
      unfold canGo at e2
      rw [Bool.and_eq_true] at e2
      exact ⟨e2.1, ahead_len _ _⟩
    have hdw : ∀ c ∈ besN p (wK p T a k).1 4, delW T (wK p T a k).1 c = !nrD D (wK p T a k).1 c := fun c hc => by
      have g1 := hg c (hbg c hc).1
      unfold delW nrD
      rw [g1, hgk]
      congr 1
      exact decide_eq_decide.2 (by omega)
    have hB := bK_ok hdw
    have hb4 := besN_len p (wK p T a k).1 4
    have hsG := inG_isP hd k1
    have ew : wK p T a (k + 1) = (nxt p T (wK p T a k).1, (wK p T a k).2 ++ [nxt p T (wK p T a k).1]) := rfl
    have ihO' := ihO (k + 1)
    rw [ew] at ihO'
    clear ihO ew
    unfold nxt at ihO' n2 n3 n4
    have hpl : (wK p T a k).2.length ≤ 200 := by omega
    have hDs := hr2 (cx (wK p T a k).1)
    generalize hL : besN p (wK p T a k).1 4 = L at *
    generalize (wK p T a k).2 = W at *
    generalize (wK p T a k).1 = s at *
    refine ⟨?_⟩
    refine Goes.loopR (fun i : Nat => L.length - i) (fun i => i ≤ L.length) (fun i => (.any :: .any :: .any :: .pw 0 .pas :: .any :: .pw 1 .spot :: .any :: .any :: .any :: .pw 2 .lgrid :: .ow 3 W.length .spot 37 :: .pw 4 .spot :: .fs .spot L :: .i .i64 (bK D s L i) :: .i .i64 (i : Int) :: .any :: .any :: .any :: .any :: .any :: .any :: .any :: .any :: .any :: .any :: .any :: .any :: .any :: .any :: .any :: .any :: .any :: .any :: .any :: .any :: .any :: .any :: .any :: .any :: .any :: .any :: .any :: .any :: .any :: .any :: .any :: .any :: .any :: .any :: .any :: .any :: .any :: .any :: .any :: .any :: .any :: .any :: .any :: .any :: .any :: .any :: .any :: .any :: .any :: .any :: .any :: .any :: .any :: .any :: .any :: .any :: .any :: .any :: .any :: .any :: .any :: .any :: .any :: .any :: .any :: .any :: .any :: .any :: .any :: .any :: .any :: .any :: .any :: .any :: .any :: .any :: .any :: .any :: .any :: .any :: .any :: .any :: .any :: []))
      (fun i => [.c .pas p, .c .spot b, .c .lgrid D, .l .spot W, .c .spot s]) 0 [0, 1, 2, 3, 4] (Nat.zero_le _) ⟨rfl, rfl, rfl, (by repeat' (first | exact trivial | rfl | apply And.intro)), (by repeat' (first | exact trivial | rfl | apply And.intro)), rfl, rfl, rfl⟩ fun i hi' ih => ?_
    have hBi := hB i hi'
    by_cases hli : i < L.length
    · have hci := inG_isP hd (hbg _ (getD_mem (d := []) hli)).1
      have hDc := hr2 (cx (L.getD i []))
      have hyes : nrD D s (L.getD i []) = true → (bK D s L i < 0 ∨ lessS (L.getD i []) (L.getD (bK D s L i).toNat []) = true) → bK D s L (i + 1) = (i : Int) := fun h1 h2 => if_pos ⟨h1, h2⟩
      have hno : ¬ (nrD D s (L.getD i []) = true ∧ (bK D s L i < 0 ∨ lessS (L.getD i []) (L.getD (bK D s L i).toNat []) = true)) → bK D s L (i + 1) = bK D s L i := fun h1 => if_neg h1
      have hnr : nrD D s (L.getD i []) = decide (D.getD (((L.getD i []).getD 1 0).toNat * 10 + ((L.getD i []).getD 0 0).toNat) 0 = D.getD ((s.getD 1 0).toNat * 10 + (s.getD 0 0).toNat) 0 - 1) := rfl
      have hbr : -1 ≤ bK D s L i ∧ bK D s L i < (L.length : Int) := by
        rcases hBi with ⟨h, -⟩ | ⟨h1, h2, -⟩ <;> omega
      unfold inG at hci hsG
      unfold cx at hDc hDs
      clear hB hI hN hK ihO' hBi
      refine Goes.tree Γ_ok htb 1000 true false Try.func32 rfl ?_
      ((try simp only [decide_eq_true_eq, decide_eq_false_iff_not, Bool.not_eq_true', Bool.not_eq_false', Bool.not_true, Bool.not_false, Bool.and_eq_true, Bool.or_eq_true, bne_iff_ne, beq_iff_eq, ne_eq]); (try simp only [rng, lo, hi, mnI, mxI, Int.toNat_natCast, Sg.n, Nat.mul_one, Nat.zero_add, Nat.add_zero, Nat.reduceAdd, List.getD_cons_zero, List.getD_cons_succ]))
      ((repeat' (first | (with_reducible apply And.intro) | intro _)); all_goals (first | exact trivial | (with_reducible assumption) | (show (_ : List Blk) = _; rfl) | (first | exact trivial | (with_reducible assumption) | omega | (split <;> omega) | (split <;> split <;> omega)) | skip); all_goals (try (refine ⟨rfl, (by first | exact Nat.le_refl _ | exact Nat.le_of_ble_eq_true rfl), rfl, rfl, ?_, (by repeat' (first | exact trivial | rfl | apply And.intro)), rfl, rfl⟩)))
      all_goals (try omega)
      · rename_i g1 g2
        refine ⟨ih (i + 1) (by omega) (by omega) [0, 1, 2, 3, 4] _ _ ?_⟩
        rw [hyes (by rw [hnr]; exact decide_eq_true g1) (.inl g2)]
        exact ⟨rfl, rfl, rfl, (by repeat' (first | exact trivial | rfl | apply And.intro)), (by repeat' (first | exact trivial | rfl | apply And.intro)), rfl, rfl, rfl⟩
      · rename_i g1 g2 g3
        refine ⟨ih (i + 1) (by omega) (by omega) [0, 1, 2, 3, 4] _ _ ?_⟩
        rw [hyes (by rw [hnr]; exact decide_eq_true g1) (.inr g3)]
        exact ⟨rfl, rfl, rfl, (by repeat' (first | exact trivial | rfl | apply And.intro)), (by repeat' (first | exact trivial | rfl | apply And.intro)), rfl, rfl, rfl⟩
      · rename_i g1 g2 g3
        refine ⟨ih (i + 1) (by omega) (by omega) [0, 1, 2, 3, 4] _ _ ?_⟩
        rw [hno (fun h => h.2.elim g2 (fun h => by rw [g3] at h; cases h))]
        exact ⟨rfl, rfl, rfl, (by repeat' (first | exact trivial | rfl | apply And.intro)), (by repeat' (first | exact trivial | rfl | apply And.intro)), rfl, rfl, rfl⟩
      · rename_i g1
        refine ⟨ih (i + 1) (by omega) (by omega) [0, 1, 2, 3, 4] _ _ ?_⟩
        rw [hno (fun h => by rw [hnr] at h; exact g1 (of_decide_eq_true h.1))]
        exact ⟨rfl, rfl, rfl, (by repeat' (first | exact trivial | rfl | apply And.intro)), (by repeat' (first | exact trivial | rfl | apply And.intro)), rfl, rfl, rfl⟩
    · obtain rfl : i = L.length := by omega
      clear ih
      rw [List.take_length] at hBi
      have hBe : 0 ≤ bK D s L L.length ∧ bK D s L L.length < (L.length : Int) ∧ L.getD (bK D s L L.length).toNat [] = minW (leftW T s L) := by
        rcases hBi with ⟨-, h⟩ | ⟨h1, h2, h3, h4⟩
        · rw [h] at n1; exact absurd n1 (by decide)
        · exact ⟨h1, h2, h4⟩
      obtain ⟨hB1, hB2, hB3⟩ := hBe
      refine Goes.tree Γ_ok htb 1000 true false Try.func32 rfl ?_
      ((try simp only [decide_eq_true_eq, decide_eq_false_iff_not, Bool.not_eq_true', Bool.not_eq_false', Bool.not_true, Bool.not_false, Bool.and_eq_true, Bool.or_eq_true, bne_iff_ne, beq_iff_eq, ne_eq]); (try simp only [rng, lo, hi, mnI, mxI, Int.toNat_natCast, Sg.n, Nat.mul_one, Nat.zero_add, Nat.add_zero, Nat.reduceAdd, List.getD_cons_zero, List.getD_cons_succ, one_row, hB3]))
      ((repeat' (first | (with_reducible apply And.intro) | intro _)); all_goals (first | exact trivial | (with_reducible assumption) | (show (_ : List Blk) = _; rfl) | (first | exact trivial | (with_reducible assumption) | omega | (split <;> omega) | (split <;> split <;> omega)) | skip); all_goals (try (refine ⟨rfl, (by first | exact Nat.le_refl _ | exact Nat.le_of_ble_eq_true rfl), rfl, rfl, ?_, (by repeat' (first | exact trivial | rfl | apply And.intro)), rfl, rfl⟩)))
      all_goals (try omega)
      · show (W ++ [_]).length ≤ _
        simp only [List.length_append, List.length_cons, List.length_nil]; omega
      exact ⟨ihO' (by omega) (by omega) [0, 1, 2, 6, 7] _ _ ⟨rfl, rfl, rfl, (by repeat' (first | exact trivial | rfl | apply And.intro)), (by repeat' (first | exact trivial | rfl | apply And.intro)), rfl, rfl, rfl⟩⟩
  · have hyes : (wK p T a k).1 = b := hbI.2 (by omega)
    obtain rfl : k = (T.getD (cx a) 0).toNat := by omega
    clear ihO
    refine Goes.tree Γ_ok htb 1000 true false Try.func32 rfl ?_
    ((try simp only [decide_eq_true_eq, decide_eq_false_iff_not, Bool.not_eq_true', Bool.not_eq_false', Bool.not_true, Bool.not_false, Bool.and_eq_true, Bool.or_eq_true, bne_iff_ne, beq_iff_eq, ne_eq]); (try simp only [rng, lo, hi, mnI, mxI, Int.toNat_natCast, Sg.n, Nat.mul_one, Nat.zero_add, Nat.add_zero, Nat.reduceAdd, List.getD_cons_zero, List.getD_cons_succ]))
    ((repeat' (first | (with_reducible apply And.intro) | intro _)); all_goals (first | exact trivial | (with_reducible assumption) | (show (_ : List Blk) = _; rfl) | (first | exact trivial | (with_reducible assumption) | omega | (split <;> omega) | (split <;> split <;> omega)) | skip); all_goals (try (refine ⟨rfl, (by first | exact Nat.le_refl _ | exact Nat.le_of_ble_eq_true rfl), rfl, rfl, ?_, (by repeat' (first | exact trivial | rfl | apply And.intro)), rfl, rfl⟩)))
    all_goals (first | contradiction | exact absurd hyes (by assumption) | exact sameA_refl _ | trace_state)
end Go.Proofs.Ytfelemoefhbphaa
