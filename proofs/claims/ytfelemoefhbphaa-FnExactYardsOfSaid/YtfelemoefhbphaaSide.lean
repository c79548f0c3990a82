/- Sides of cells, and hurdles. -/
import Derived.Test.YtfelemoefhbphaaCell
namespace Go.Proofs.Ytfelemoefhbphaa
open Go Go.Eng
set_option linter.unusedSimpArgs false
set_option linter.unusedVariables false
set_option maxRecDepth 100000
set_option maxHeartbeats 4000000

/-- The spot on a side. -/
def ahead (s : List Int) (d : Int) : List Int :=
  if d = 0 then [s.getD 0 0, s.getD 1 0 - 1] else if d = 1 then [s.getD 0 0 + 1, s.getD 1 0] else if d = 2 then [s.getD 0 0, s.getD 1 0 + 1] else [s.getD 0 0 - 1, s.getD 1 0]
def near (s : List Int) : Prop := -128 < s.getD 0 0 ∧ s.getD 0 0 < 127 ∧ -128 < s.getD 1 0 ∧ s.getD 1 0 < 127

def aheadS : Fun
  | [.ag .spot s, .i .i64 d], [] => some (.ag .spot (ahead s d), [], [near s])
  | _, _ => .none

set_option maxRecDepth 100000 in
theorem s_ahead : Sound Try.prog 123 aheadS := by
  intro args M r M' vs h hvs
  unfold aheadS at h
  split at h
  case h_2 => cases h
  rename_i s d
  cases h
  refine SpecOK.assume fun hA hM => ?_
  have htb := (TbOk.nil : TbOk Try.prog tb0)
  refine SpecOK.of_goes [] Try.func123 rfl ?_
  obtain ⟨a, b, rfl⟩ := len2 hA.1
  obtain ⟨hn, -⟩ := hvs
  simp only [near, List.getD_cons_zero, List.getD_cons_succ] at hn
  simp only [ahead, List.getD_cons_zero, List.getD_cons_succ]
  clear hA hM
  refine Goes.tree Γ_ok htb 1000 false false Try.func123 rfl ?_
  ((try simp only [decide_eq_true_eq, decide_eq_false_iff_not, Bool.not_eq_true', Bool.not_eq_false', Bool.not_true, Bool.not_false, Bool.and_eq_true, Bool.or_eq_true, bne_iff_ne, beq_iff_eq, ne_eq]); (try simp only [rng, lo, hi, mnI, mxI, Int.toNat_natCast, Sg.n, Nat.mul_one, Nat.zero_add, Nat.add_zero, Nat.reduceAdd, List.getD_cons_zero, List.getD_cons_succ]))
  ((repeat' (first | (with_reducible apply And.intro) | intro _)); all_goals (first | exact trivial | (with_reducible assumption) | (show (_ : List Blk) = _; rfl) | (first | exact trivial | (with_reducible assumption) | omega | (split <;> omega) | (split <;> split <;> omega)) | skip); all_goals (try (refine ⟨rfl, (by first | exact Nat.le_refl _ | exact Nat.le_of_ble_eq_true rfl), rfl, rfl, ?_, (by repeat' (first | exact trivial | rfl | apply And.intro)), rfl, rfl⟩)))
  all_goals (show sameA (AV.ag _ _) _; simp only [*, if_true, if_false, if_pos, if_neg, not_false_eq_true]; first | exact sameA_refl _ | (simp; exact sameA_refl _) | trace_state)
set_option maxRecDepth 100000 in
theorem s_l01Next : Sound Try.prog 99 aheadS := by
  intro args M r M' vs h hvs
  unfold aheadS at h
  split at h
  case h_2 => cases h
  rename_i s d
  cases h
  refine SpecOK.assume fun hA hM => ?_
  have htb := (TbOk.nil : TbOk Try.prog tb0)
  refine SpecOK.of_goes [] Try.func99 rfl ?_
  obtain ⟨a, b, rfl⟩ := len2 hA.1
  obtain ⟨hn, -⟩ := hvs
  simp only [near, List.getD_cons_zero, List.getD_cons_succ] at hn
  simp only [ahead, List.getD_cons_zero, List.getD_cons_succ]
  clear hA hM
  refine Goes.tree Γ_ok htb 1000 false false Try.func99 rfl ?_
  ((try simp only [decide_eq_true_eq, decide_eq_false_iff_not, Bool.not_eq_true', Bool.not_eq_false', Bool.not_true, Bool.not_false, Bool.and_eq_true, Bool.or_eq_true, bne_iff_ne, beq_iff_eq, ne_eq]); (try simp only [rng, lo, hi, mnI, mxI, Int.toNat_natCast, Sg.n, Nat.mul_one, Nat.zero_add, Nat.add_zero, Nat.reduceAdd, List.getD_cons_zero, List.getD_cons_succ]))
  ((repeat' (first | (with_reducible apply And.intro) | intro _)); all_goals (first | exact trivial | (with_reducible assumption) | (show (_ : List Blk) = _; rfl) | (first | exact trivial | (with_reducible assumption) | omega | (split <;> omega) | (split <;> split <;> omega)) | skip); all_goals (try (refine ⟨rfl, (by first | exact Nat.le_refl _ | exact Nat.le_of_ble_eq_true rfl), rfl, rfl, ?_, (by repeat' (first | exact trivial | rfl | apply And.intro)), rfl, rfl⟩)))
  all_goals (show sameA (AV.ag _ _) _; simp only [*, if_true, if_false, if_pos, if_neg, not_false_eq_true]; first | exact sameA_refl _ | (simp; exact sameA_refl _) | trace_state)

theorem sameA_ag {σ : Sg} {a b : List Int} (h : a = b) : sameA (.ag σ a) (.ag σ b) := by subst h; exact sameA_refl _
theorem sameA_dt {a q : Bool} {k : IntKind} {c e : Int} (h : a = q) (h' : c = e) : sameA (.t2 (.b a) (.i k c)) (.t2 (.d q) (.i k e)) := by subst h'; exact ⟨h, sameA_refl (.i k c)⟩
theorem sameA_b {a b : Bool} (h : a = b) : sameA (.b a) (.b b) := by subst h; exact sameA_refl _
theorem pset {q : List Int} (h : q.length = 2) (z : Int) : (putSeg (List.replicate 3 0) 0 2 q).set 2 z = [q.getD 0 0, q.getD 1 0, z] := by
  obtain ⟨a, b, rfl⟩ := len2 h
  rfl
theorem shr_rng {v m : Int} (k : Nat) (h0 : 0 ≤ v) (h1 : v ≤ m) : 0 ≤ v.fdiv (2 ^ k) ∧ v.fdiv (2 ^ k) ≤ m := by
  have h2 : (0:Int) ≤ 2 ^ k := Int.pow_nonneg (by omega)
  rw [Int.fdiv_eq_ediv_of_nonneg _ h2]
  exact ⟨Int.ediv_nonneg h0 h2, Int.le_trans (Int.ediv_le_self _ h0) h1⟩
theorem ahead_len (s : List Int) (d : Int) : (ahead s d).length = 2 := by unfold ahead; split <;> (try split) <;> (try split) <;> rfl

/-- The hurdle at a side of a cell. -/
def hurdleAt (s : List Int) (d : Int) : List Int :=
  let q := if d = 0 ∨ d = 3 then ahead s d else s
  [q.getD 0 0, q.getD 1 0, if d = 0 ∨ d = 2 then 1 else 0]

def hurdleAtS : Fun
  | [.ag .spot s, .i .i64 d], [] => some (.ag .hur (hurdleAt s d), [], [near s])
  | _, _ => .none

set_option maxRecDepth 100000 in
theorem s_hurdleAt : Sound Try.prog 142 hurdleAtS := by
  intro args M r M' vs h hvs
  unfold hurdleAtS at h
  split at h
  case h_2 => cases h
  rename_i s d
  cases h
  refine SpecOK.assume fun hA hM => ?_
  have htb := (TbOk.cons s_ahead Try.func123 rfl rfl (TbOk.nil : TbOk Try.prog tb0))
  refine SpecOK.of_goes [] Try.func142 rfl ?_
  obtain ⟨a, b, rfl⟩ := len2 hA.1
  obtain ⟨hn, -⟩ := hvs
  clear hA hM
  refine Goes.tree Γ_ok htb 1000 false false Try.func142 rfl ?_
  ((try simp only [decide_eq_true_eq, decide_eq_false_iff_not, Bool.not_eq_true', Bool.not_eq_false', Bool.not_true, Bool.not_false, Bool.and_eq_true, Bool.or_eq_true, bne_iff_ne, beq_iff_eq, ne_eq]); (try simp only [rng, lo, hi, mnI, mxI, Int.toNat_natCast, Sg.n, Nat.mul_one, Nat.zero_add, Nat.add_zero, Nat.reduceAdd, List.getD_cons_zero, List.getD_cons_succ]))
  ((repeat' (first | (with_reducible apply And.intro) | intro _)); all_goals (first | exact trivial | (with_reducible assumption) | (show (_ : List Blk) = _; rfl) | (first | exact trivial | (with_reducible assumption) | omega | (split <;> omega) | (split <;> split <;> omega)) | skip); all_goals (try (refine ⟨rfl, (by first | exact Nat.le_refl _ | exact Nat.le_of_ble_eq_true rfl), rfl, rfl, ?_, (by repeat' (first | exact trivial | rfl | apply And.intro)), rfl, rfl⟩)))
  all_goals (refine sameA_ag ?_; rw [pset (by first | exact ahead_len _ _ | rfl)]; simp [hurdleAt, *, -List.getD_eq_getElem?_getD])

/-- Is the bit set? -/
def bitAt (v : Int) (x : Nat) : Bool := decide (bitsI .and .u16 (v.fdiv (2 ^ (min x IntKind.u16.bits))) 1 = 1)
def standsP (p h : List Int) : Bool :=
  if h.getD 2 0 = 0 then bitAt (p.getD (102 + (h.getD 1 0).toNat) 0) (h.getD 0 0).toNat else bitAt (p.getD (112 + (h.getD 1 0).toNat) 0) (h.getD 0 0).toNat
def standsS : Fun
  | [.ag .pas p, .ag .hur h], [] => some (.b (standsP p h), [], [inG h])
  | _, _ => .none

set_option maxRecDepth 100000 in
theorem s_stands : Sound Try.prog 146 standsS := by
  intro args M r M' vs h hvs
  unfold standsS at h
  split at h
  case h_2 => cases h
  rename_i p h
  cases h
  refine SpecOK.assume fun hA hM => ?_
  have htb := (TbOk.nil : TbOk Try.prog tb0)
  refine SpecOK.of_goes [] Try.func146 rfl ?_
  have hp : PasOk p := ⟨hA.1, hA.2.1⟩
  obtain ⟨a, b, c, rfl⟩ := len3 hA.2.2.1
  obtain ⟨hn, -⟩ := hvs
  simp only [inG, List.getD_cons_zero, List.getD_cons_succ] at hn
  have he := shr_rng (min a.toNat IntKind.u16.bits) (hp.e' (y := b.toNat) (by omega)).1 (hp.e' (y := b.toNat) (by omega)).2
  have hs := shr_rng (min a.toNat IntKind.u16.bits) (hp.s' (y := b.toNat) (by omega)).1 (hp.s' (y := b.toNat) (by omega)).2
  clear hA hM
  refine Goes.tree Γ_ok htb 1000 false false Try.func146 rfl ?_
  ((try simp only [decide_eq_true_eq, decide_eq_false_iff_not, Bool.not_eq_true', Bool.not_eq_false', Bool.not_true, Bool.not_false, Bool.and_eq_true, Bool.or_eq_true, bne_iff_ne, beq_iff_eq, ne_eq]); (try simp only [rng, lo, hi, mnI, mxI, Int.toNat_natCast, Sg.n, Nat.mul_one, Nat.zero_add, Nat.add_zero, Nat.reduceAdd, List.getD_cons_zero, List.getD_cons_succ]))
  ((repeat' (first | (with_reducible apply And.intro) | intro _)); all_goals (first | exact trivial | (with_reducible assumption) | (show (_ : List Blk) = _; rfl) | (first | exact trivial | (with_reducible assumption) | omega | (split <;> omega) | (split <;> split <;> omega)) | skip); all_goals (try (refine ⟨rfl, (by first | exact Nat.le_refl _ | exact Nat.le_of_ble_eq_true rfl), rfl, rfl, ?_, (by repeat' (first | exact trivial | rfl | apply And.intro)), rfl, rfl⟩)))
  · rename_i hc
    refine sameA_b ?_
    exact if_neg hc
  · rename_i hc
    refine sameA_b ?_
    have hc : c = 0 := by simpa using hc
    exact if_pos hc

/-- Can one go over the side? -/
def canGo (p s : List Int) (d : Int) : Bool := isP p (ahead s d) && !standsP p (hurdleAt s d)

theorem hurdleAt_inG {p s : List Int} {d : Int} (h : okD p) (hs : isP p s = true) (hn : isP p (ahead s d) = true) : inG (hurdleAt s d) := by
  obtain ⟨h1, h2, h3, h4⟩ := h
  unfold isP at hs hn
  rw [decide_eq_true_eq] at hs hn
  unfold inG hurdleAt
  simp only [List.getD_cons_zero, List.getD_cons_succ]
  split <;> omega

theorem inG_of' {p s : List Int} (h : okD p) (hs : isP p s = true) : inG s := by
  obtain ⟨h1, h2, h3, h4⟩ := h
  unfold isP at hs
  rw [decide_eq_true_eq] at hs
  unfold inG; omega

theorem near_of {p s : List Int} (h : okD p) (hs : isP p s = true) : near s := by
  obtain ⟨h1, h2, h3, h4⟩ := h
  unfold isP at hs
  rw [decide_eq_true_eq] at hs
  unfold near; omega

def canGoS : Fun
  | [.ag .pas p, .ag .spot s, .i .i64 d], [] => some (.b (canGo p s d), [], [okD p ∧ isP p s = true])
  | _, _ => .none

set_option maxRecDepth 100000 in
theorem s_canGo : Sound Try.prog 124 canGoS := by
  intro args M r M' vs h hvs
  unfold canGoS at h
  split at h
  case h_2 => cases h
  rename_i p s d
  cases h
  refine SpecOK.assume fun hA hM => ?_
  have htb := (TbOk.cons s_ahead Try.func123 rfl rfl (TbOk.cons s_isCell Try.func114 rfl rfl (TbOk.cons s_hurdleAt Try.func142 rfl rfl (TbOk.cons s_stands Try.func146 rfl rfl (TbOk.nil : TbOk Try.prog tb0)))))
  refine SpecOK.of_goes [] Try.func124 rfl ?_
  obtain ⟨⟨hd, hs⟩, -⟩ := hvs
  have hn := near_of hd hs
  have hh := fun h => hurdleAt_inG (d := d) hd hs h
  obtain ⟨h1, h2, h3, h4⟩ := hd
  clear hA hM
  refine Goes.tree Γ_ok htb 1000 false false Try.func124 rfl ?_
  ((try simp only [decide_eq_true_eq, decide_eq_false_iff_not, Bool.not_eq_true', Bool.not_eq_false', Bool.not_true, Bool.not_false, Bool.and_eq_true, Bool.or_eq_true, bne_iff_ne, beq_iff_eq, ne_eq]); (try simp only [rng, lo, hi, mnI, mxI, Int.toNat_natCast, Sg.n, Nat.mul_one, Nat.zero_add, Nat.add_zero, Nat.reduceAdd, List.getD_cons_zero, List.getD_cons_succ]))
  ((repeat' (first | (with_reducible apply And.intro) | intro _)); all_goals (first | exact trivial | (with_reducible assumption) | (show (_ : List Blk) = _; rfl) | (first | exact trivial | (with_reducible assumption) | omega | (split <;> omega) | (split <;> split <;> omega)) | skip); all_goals (try (refine ⟨rfl, (by first | exact Nat.le_refl _ | exact Nat.le_of_ble_eq_true rfl), rfl, rfl, ?_, (by repeat' (first | exact trivial | rfl | apply And.intro)), rfl, rfl⟩)))
  · exact hh ‹_›
  · refine sameA_b ?_
    simp [canGo, *]
  · show canGo p s d = false
    simp [canGo, *]

def closedS : Fun
  | [.pw 0 .pas, .ag .spot s, .i .i64 d], [.c .pas p] => some (.b (!canGo p s d), [.c .pas p], [okD p ∧ isP p s = true ∧ 0 ≤ d ∧ d ≤ 3])
  | _, _ => .none

set_option maxRecDepth 100000 in
theorem s_l01Closed : Sound Try.prog 122 closedS := by
  intro args M r M' vs h hvs
  unfold closedS at h
  split at h
  case h_2 => cases h
  rename_i s d p
  cases h
  refine SpecOK.assume fun hA hM => ?_
  have htb := (TbOk.cons s_l01Next Try.func99 rfl rfl (TbOk.cons s_l01Is Try.func77 rfl rfl (TbOk.nil : TbOk Try.prog tb0)))
  refine SpecOK.of_goes [0] Try.func122 rfl ?_
  have hp := PasOk.of hA.1 hM.1
  obtain ⟨a, b, rfl⟩ := len2 hA.2.1
  obtain ⟨⟨hd, hs, hd0, hd3⟩, -⟩ := hvs
  have hn := near_of hd hs
  have hg := fun h => inG_of' hd (s := ahead [a, b] d) h
  have hgs := inG_of' hd hs
  have hst : isP p (ahead [a, b] d) = true → (!canGo p [a, b] d) = standsP p (hurdleAt [a, b] d) := by intro h; simp [canGo, h]
  unfold inG at hg hgs
  have he := fun (y x : Nat) (h : y < 10) => shr_rng (min x IntKind.u16.bits) (hp.e' h).1 (hp.e' h).2
  have hS := fun (y x : Nat) (h : y < 10) => shr_rng (min x IntKind.u16.bits) (hp.s' h).1 (hp.s' h).2
  simp only [List.getD_cons_zero, List.getD_cons_succ] at hgs
  clear hA hM hd
  refine Goes.tree Γ_ok htb 1000 false false Try.func122 rfl ?_
  ((try simp only [decide_eq_true_eq, decide_eq_false_iff_not, Bool.not_eq_true', Bool.not_eq_false', Bool.not_true, Bool.not_false, Bool.and_eq_true, Bool.or_eq_true, bne_iff_ne, beq_iff_eq, ne_eq]); (try simp only [rng, lo, hi, mnI, mxI, Int.toNat_natCast, Sg.n, Nat.mul_one, Nat.zero_add, Nat.add_zero, Nat.reduceAdd, List.getD_cons_zero, List.getD_cons_succ]))
  ((repeat' (first | (with_reducible apply And.intro) | intro _)); all_goals (first | exact trivial | (with_reducible assumption) | (show (_ : List Blk) = _; rfl) | (first | exact trivial | (with_reducible assumption) | omega | (split <;> omega) | (split <;> split <;> omega)) | skip); all_goals (try (refine ⟨rfl, (by first | exact Nat.le_refl _ | exact Nat.le_of_ble_eq_true rfl), rfl, rfl, ?_, (by repeat' (first | exact trivial | rfl | apply And.intro)), rfl, rfl⟩)))
  case' left => (refine (show (!canGo p [a, b] d) = true from ?_); simp [canGo, *]; done)
  all_goals (have hg1 := hg (by assumption))
  all_goals (try omega)
  all_goals (first | exact (he _ _ (by omega)).1 | exact (he _ _ (by omega)).2 | exact (hS _ _ (by omega)).1 | exact (hS _ _ (by omega)).2 | skip)
  all_goals (refine sameA_b ?_; rw [hst (by assumption)])
  · rename_i h; subst h; rfl
  · rename_i h; subst h; rfl
  · rename_i h; subst h; rfl
  · obtain rfl : d = 3 := by omega
    rfl

/-- The first number that is not 0. -/
def fstI : List (List Int) → Int
  | [] => 0
  | r :: rs => if r.getD 0 0 = 0 then fstI rs else r.getD 0 0

theorem fstI_drop {rows : List (List Int)} {i : Nat} (h : i < rows.length) : fstI (rows.drop i) = if (rows.getD i []).getD 0 0 = 0 then fstI (rows.drop (i + 1)) else (rows.getD i []).getD 0 0 := by
  have e : rows.getD i [] = rows[i] := by rw [List.getD_eq_getElem?_getD, List.getElem?_eq_getElem h]; rfl
  rw [List.drop_eq_getElem_cons h, e]; rfl

def fstS : Fun
  | [.fs .i64 rows], [] => some (.i .i64 (fstI rows), [], [])
  | _, _ => .none

set_option maxRecDepth 100000 in
theorem s_firstOf : Sound Try.prog 67 fstS := by
  intro args M r M' vs h hvs
  unfold fstS at h
  split at h
  case h_2 => cases h
  rename_i rows
  cases h
  refine SpecOK.assume fun hA hM => ?_
  have htb := (TbOk.nil : TbOk Try.prog tb0)
  refine SpecOK.of_goes [] Try.func67 rfl ?_
  have hl : rows.length ≤ maxLen := hA.1
  have hm : maxLen = 9223372036854775807 := rfl
  clear hA hM
  refine Goes.tree Γ_ok htb 1000 false false Try.func67 rfl ?_
  refine ⟨?_⟩
  refine Goes.loopR (fun i : Nat => rows.length - i) (fun i => i ≤ rows.length ∧ fstI (rows.drop i) = fstI rows) (fun i => (.any :: .any :: .any :: .any :: .any :: .fs .i64 rows :: .i .i64 (rows.length:Int) :: .i .i64 (i:Int) :: .any :: .any :: .any :: .any :: .any :: .any :: .any :: [])) (fun _ => []) 0 [] ⟨by omega, rfl⟩ ⟨rfl, rfl, rfl, (by repeat' (first | exact trivial | rfl | apply And.intro)), (by repeat' (first | exact trivial | rfl | apply And.intro)), rfl, rfl, rfl⟩ fun i ⟨hle, hf⟩ ih => ?_
  have hd := fun h : i < rows.length => fstI_drop h
  refine Goes.tree Γ_ok htb 1000 false false Try.func67 rfl ?_
  ((try simp only [decide_eq_true_eq, decide_eq_false_iff_not, Bool.not_eq_true', Bool.not_eq_false', Bool.not_true, Bool.not_false, Bool.and_eq_true, Bool.or_eq_true, bne_iff_ne, beq_iff_eq, ne_eq]); (try simp only [rng, lo, hi, mnI, mxI, Int.toNat_natCast, Sg.n, Nat.mul_one, Nat.zero_add, Nat.add_zero, Nat.reduceAdd, List.getD_cons_zero, List.getD_cons_succ]))
  ((repeat' (first | (with_reducible apply And.intro) | intro _)); all_goals (first | exact trivial | (with_reducible assumption) | (show (_ : List Blk) = _; rfl) | (first | exact trivial | (with_reducible assumption) | omega | (split <;> omega) | (split <;> split <;> omega)) | skip); all_goals (try (refine ⟨rfl, (by first | exact Nat.le_refl _ | exact Nat.le_of_ble_eq_true rfl), rfl, rfl, ?_, (by repeat' (first | exact trivial | rfl | apply And.intro)), rfl, rfl⟩)))
  · rename_i h1 h2
    refine sameA_i ?_
    rw [← hf, hd (by omega), if_neg h2]
  · rename_i h1 h2
    exact ⟨ih (i + 1) ⟨by omega, by rw [← hf, hd (by omega), if_pos h2]⟩ (by omega) [] _ _ ⟨rfl, rfl, rfl, (by repeat' (first | exact trivial | rfl | apply And.intro)), (by repeat' (first | exact trivial | rfl | apply And.intro)), rfl, rfl, rfl⟩⟩
  · obtain rfl : i = rows.length := by omega
    refine sameA_i ?_
    rw [← hf, List.drop_length]; rfl

/-- The code of a cell and a side. -/
def sideC (p s : List Int) (d : Int) : Int := if codeP p [s] = 0 then (if 0 ≤ d ∧ d ≤ 3 then 0 else 2) else codeP p [s]
def sideCS : Fun
  | [.ag .pas p, .ag .spot s, .i .i64 d], [] => some (.i .i64 (sideC p s d), [], [])
  | _, _ => .none

def sideOkS : Fun
  | [.i .i64 d], [] => some (.b (decide (0 ≤ d ∧ d ≤ 3)), [], [])
  | _, _ => .none

def hurP (p h : List Int) : Bool := isP p [h.getD 0 0, h.getD 1 0] && isP p (ahead [h.getD 0 0, h.getD 1 0] (if h.getD 2 0 = 0 then 1 else 2))

def otherS : Fun
  | [.ag .hur h], [] => some (.ag .spot (ahead [h.getD 0 0, h.getD 1 0] (if h.getD 2 0 = 0 then 1 else 2)), [], [near h])
  | _, _ => .none
set_option maxRecDepth 100000 in
theorem s_other : Sound Try.prog 107 otherS := by
  intro args M r M' vs h hvs
  unfold otherS at h
  split at h
  case h_2 => cases h
  rename_i h
  cases h
  refine SpecOK.assume fun hA hM => ?_
  have htb := (TbOk.cons s_ahead Try.func123 rfl rfl (TbOk.nil : TbOk Try.prog tb0))
  refine SpecOK.of_goes [] Try.func107 rfl ?_
  obtain ⟨a, b, c, rfl⟩ := len3 hA.1
  obtain ⟨hn, -⟩ := hvs
  clear hA hM
  refine Goes.tree Γ_ok htb 1000 false false Try.func107 rfl ?_
  ((try simp only [decide_eq_true_eq, decide_eq_false_iff_not, Bool.not_eq_true', Bool.not_eq_false', Bool.not_true, Bool.not_false, Bool.and_eq_true, Bool.or_eq_true, bne_iff_ne, beq_iff_eq, ne_eq]); (try simp only [rng, lo, hi, mnI, mxI, Int.toNat_natCast, Sg.n, Nat.mul_one, Nat.zero_add, Nat.add_zero, Nat.reduceAdd, List.getD_cons_zero, List.getD_cons_succ]))
  ((repeat' (first | (with_reducible apply And.intro) | intro _)); all_goals (first | exact trivial | (with_reducible assumption) | (show (_ : List Blk) = _; rfl) | (first | exact trivial | (with_reducible assumption) | omega | (split <;> omega) | (split <;> split <;> omega)) | skip); all_goals (try (refine ⟨rfl, (by first | exact Nat.le_refl _ | exact Nat.le_of_ble_eq_true rfl), rfl, rfl, ?_, (by repeat' (first | exact trivial | rfl | apply And.intro)), rfl, rfl⟩)))
  · exact hn
  · rename_i h
    refine sameA_ag ?_
    rw [if_neg h]; rfl
  · exact hn
  · rename_i h
    refine sameA_ag ?_
    rw [if_pos (by simpa using h)]; rfl

theorem near_hur {h : List Int} : near h ↔ near [h.getD 0 0, h.getD 1 0] := by unfold near; simp only [List.getD_cons_zero, List.getD_cons_succ]

def hurS : Fun
  | [.pw 0 .pas, .ag .hur h], [.c .pas p] => some (.b (hurP p h), [.c .pas p], [okD p])
  | _, _ => .none
def hurVS : Fun
  | [.ag .pas p, .ag .hur h], [] => some (.b (hurP p h), [], [okD p])
  | _, _ => .none

def sideHS : Fun
  | [.ag .hur h], [] => some (.i .i64 (if h.getD 2 0 = 0 then 1 else 2), [], [])
  | _, _ => .none
set_option maxRecDepth 100000 in
theorem s_l03Side : Sound Try.prog 144 sideHS := by
  intro args M r M' vs h hvs
  unfold sideHS at h
  split at h
  case h_2 => cases h
  rename_i h
  cases h
  refine SpecOK.assume fun hA hM => ?_
  have htb := (TbOk.nil : TbOk Try.prog tb0)
  refine SpecOK.of_goes [] Try.func144 rfl ?_
  obtain ⟨a, b, c, rfl⟩ := len3 hA.1
  clear hA hM
  refine Goes.tree Γ_ok htb 1000 false false Try.func144 rfl ?_
  ((try simp only [decide_eq_true_eq, decide_eq_false_iff_not, Bool.not_eq_true', Bool.not_eq_false', Bool.not_true, Bool.not_false, Bool.and_eq_true, Bool.or_eq_true, bne_iff_ne, beq_iff_eq, ne_eq]); (try simp only [rng, lo, hi, mnI, mxI, Int.toNat_natCast, Sg.n, Nat.mul_one, Nat.zero_add, Nat.add_zero, Nat.reduceAdd, List.getD_cons_zero, List.getD_cons_succ]))
  ((repeat' (first | (with_reducible apply And.intro) | intro _)); all_goals (first | exact trivial | (with_reducible assumption) | (show (_ : List Blk) = _; rfl) | (first | exact trivial | (with_reducible assumption) | omega | (split <;> omega) | (split <;> split <;> omega)) | skip); all_goals (try (refine ⟨rfl, (by first | exact Nat.le_refl _ | exact Nat.le_of_ble_eq_true rfl), rfl, rfl, ?_, (by repeat' (first | exact trivial | rfl | apply And.intro)), rfl, rfl⟩)))
  · rename_i h
    refine sameA_i ?_
    rw [if_neg h]
  · rename_i h
    refine sameA_i ?_
    rw [if_pos (by simpa using h)]
set_option maxRecDepth 100000 in
theorem s_l03Is : Sound Try.prog 158 hurS := by
  intro args M r M' vs h hvs
  unfold hurS at h
  split at h
  case h_2 => cases h
  rename_i h p
  cases h
  refine SpecOK.assume fun hA hM => ?_
  have htb := (TbOk.cons s_l01Is Try.func77 rfl rfl (TbOk.cons s_l03Side Try.func144 rfl rfl (TbOk.cons s_l01Next Try.func99 rfl rfl (TbOk.nil : TbOk Try.prog tb0))))
  refine SpecOK.of_goes [0] Try.func158 rfl ?_
  obtain ⟨a, b, c, rfl⟩ := len3 hA.2.1
  obtain ⟨hd, -⟩ := hvs
  have hn := fun h => near_of (s := [a, b]) hd h
  clear hA hM
  refine Goes.tree Γ_ok htb 1000 false false Try.func158 rfl ?_
  ((try simp only [decide_eq_true_eq, decide_eq_false_iff_not, Bool.not_eq_true', Bool.not_eq_false', Bool.not_true, Bool.not_false, Bool.and_eq_true, Bool.or_eq_true, bne_iff_ne, beq_iff_eq, ne_eq]); (try simp only [rng, lo, hi, mnI, mxI, Int.toNat_natCast, Sg.n, Nat.mul_one, Nat.zero_add, Nat.add_zero, Nat.reduceAdd, List.getD_cons_zero, List.getD_cons_succ]))
  ((repeat' (first | (with_reducible apply And.intro) | intro _)); all_goals (first | exact trivial | (with_reducible assumption) | (show (_ : List Blk) = _; rfl) | (first | exact trivial | (with_reducible assumption) | omega | (split <;> omega) | (split <;> split <;> omega)) | skip); all_goals (try (refine ⟨rfl, (by first | exact Nat.le_refl _ | exact Nat.le_of_ble_eq_true rfl), rfl, rfl, ?_, (by repeat' (first | exact trivial | rfl | apply And.intro)), rfl, rfl⟩)))
  · exact hn ‹_›
  · rename_i h
    have h' : isP p [a, b] = true := h
    refine sameA_b ?_
    simp only [hurP, List.getD_cons_zero, List.getD_cons_succ, h', Bool.true_and]; rfl
  · rename_i h
    have h' : isP p [a, b] = false := h
    show hurP p [a, b, c] = false
    simp only [hurP, List.getD_cons_zero, List.getD_cons_succ, h', Bool.false_and]
set_option maxRecDepth 100000 in
theorem s_isHurdle : Sound Try.prog 163 hurVS := by
  intro args M r M' vs h hvs
  unfold hurVS at h
  split at h
  case h_2 => cases h
  rename_i p h
  cases h
  refine SpecOK.assume fun hA hM => ?_
  have htb := (TbOk.cons s_isCell Try.func114 rfl rfl (TbOk.cons s_other Try.func107 rfl rfl (TbOk.nil : TbOk Try.prog tb0)))
  refine SpecOK.of_goes [] Try.func163 rfl ?_
  obtain ⟨a, b, c, rfl⟩ := len3 hA.2.2.1
  obtain ⟨hd, -⟩ := hvs
  have hn := fun h => near_of (s := [a, b]) hd h
  obtain ⟨h1, h2, h3, h4⟩ := hd
  clear hA hM
  refine Goes.tree Γ_ok htb 1000 false false Try.func163 rfl ?_
  ((try simp only [decide_eq_true_eq, decide_eq_false_iff_not, Bool.not_eq_true', Bool.not_eq_false', Bool.not_true, Bool.not_false, Bool.and_eq_true, Bool.or_eq_true, bne_iff_ne, beq_iff_eq, ne_eq]); (try simp only [rng, lo, hi, mnI, mxI, Int.toNat_natCast, Sg.n, Nat.mul_one, Nat.zero_add, Nat.add_zero, Nat.reduceAdd, List.getD_cons_zero, List.getD_cons_succ]))
  ((repeat' (first | (with_reducible apply And.intro) | intro _)); all_goals (first | exact trivial | (with_reducible assumption) | (show (_ : List Blk) = _; rfl) | (first | exact trivial | (with_reducible assumption) | omega | (split <;> omega) | (split <;> split <;> omega)) | skip); all_goals (try (refine ⟨rfl, (by first | exact Nat.le_refl _ | exact Nat.le_of_ble_eq_true rfl), rfl, rfl, ?_, (by repeat' (first | exact trivial | rfl | apply And.intro)), rfl, rfl⟩)))
  · exact hn ‹_›
  · rename_i h
    have h' : isP p [a, b] = true := h
    refine sameA_b ?_
    simp only [hurP, List.getD_cons_zero, List.getD_cons_succ, h', Bool.true_and]
  · rename_i h
    have h' : isP p [a, b] = false := h
    show hurP p [a, b, c] = false
    simp only [hurP, List.getD_cons_zero, List.getD_cons_succ, h', Bool.false_and]
end Go.Proofs.Ytfelemoefhbphaa
