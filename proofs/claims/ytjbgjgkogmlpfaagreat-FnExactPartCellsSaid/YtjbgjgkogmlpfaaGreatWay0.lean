/- The steps from a cell: the spec's way and the program's. -/
import Derived.Test.YtjbgjgkogmlpfaaGreatBfs0
import Derived.Test.YtjbgjgkogmlpfaaGreatFilt
import Derived.Test.YtjbgjgkogmlpfaaGreatLists
import Derived.Test.YtjbgjgkogmlpfaaGreatCell
import Derived.Test.YtjbgjgkogmlpfaaGreatHas
namespace Go.Proofs.YtjbgjgkogmlpfaaGreat
open Go Go.Eng
set_option linter.unusedSimpArgs false
set_option linter.unusedVariables false
set_option maxRecDepth 100000
set_option maxHeartbeats 4000000

noncomputable def stepsS : Fun
  | [.pw 0 .pas, .ag .spot s], [.c .pas p] => some (.ag .lgrid (bfsD p [s]), [.c .pas p], [okD p ∧ isP p s = true])
  | _, _ => .none


def cloneS : Fun
  | [.fs .spot rows], [] => some (.ow 0 rows.length .spot 54, [.l .spot rows], [0 < rows.length ∧ rows.length ≤ 1073741824])
  | _, _ => .none
set_option maxRecDepth 100000 in
theorem s_cloneSpot : Sound Tryz.prog 57 cloneS := by
  intro args M r M' vs h hvs
  unfold cloneS at h
  split at h
  case h_2 => cases h
  rename_i rows
  cases h
  refine SpecOK.assume fun hA hM => ?_
  have htb := (TbOk.nil : TbOk Tryz.prog tb0)
  refine SpecOK.of_goes [1] Tryz.func57 rfl ?_
  obtain ⟨⟨h1, h2⟩, -⟩ := hvs
  clear hA hM
  refine Goes.tree Γ_ok htb 1000 false false Tryz.func57 rfl ?_
  ((try simp only [decide_eq_true_eq, decide_eq_false_iff_not, Bool.not_eq_true', Bool.not_eq_false', Bool.not_true, Bool.not_false, Bool.and_eq_true, Bool.or_eq_true, bne_iff_ne, beq_iff_eq, ne_eq]); (try simp only [rng, lo, hi, mnI, mxI, Int.toNat_natCast, Sg.n, Nat.mul_one, Nat.zero_add, Nat.add_zero, Nat.reduceAdd, List.getD_cons_zero, List.getD_cons_succ]))
  ((repeat' (first | (with_reducible apply And.intro) | intro _)); all_goals (first | exact trivial | (with_reducible assumption) | (show (_ : List Blk) = _; rfl) | (first | exact trivial | (with_reducible assumption) | omega | (split <;> omega) | (split <;> split <;> omega)) | skip); all_goals (try (refine ⟨rfl, (by first | exact Nat.le_refl _ | exact Nat.le_of_ble_eq_true rfl), rfl, rfl, ?_, (by repeat' (first | exact trivial | rfl | apply And.intro)), rfl, rfl⟩)))
  all_goals (first | contradiction | exact h2 | exact sameA_refl _ | trace_state)

/-- A table of which the first n are -1. -/
def fil (n : Nat) : List Int := List.replicate n (-1) ++ List.replicate (100 - n) 0
theorem fil_set {n : Nat} (h : n < 100) : (fil n).set n (-1) = fil (n + 1) := by
  unfold fil
  rw [rep_set _ _ _ _ (by omega), show 100 - n - 1 = 100 - (n + 1) from by omega]
theorem fil_all (rows : List (List Int)) : fil 100 = m1 (srcD rows 0) := by
  unfold fil m1 srcD; simp
theorem src_step (rows : List (List Int)) (i : Nat) : (m1 (srcD rows i)).set (cx (rows.getD i [])) 0 = m1 (srcD rows (i + 1)) := m1_set _ _ _

noncomputable def farS : Fun
  | [.ag .pas p, .fs .spot rows], [] => some (.ag .grid (m1 (bfsD p rows)), [], [okD p ∧ (∀ s ∈ rows, isP p s = true) ∧ 0 < rows.length ∧ rows.length ≤ 1000000])
  | _, _ => .none


def stepAtS : Fun
  | [.pw 0 .grid, .ag .spot s], [.c .grid T] => some (.i .i64 (T.getD (cx s) 0), [.c .grid T], [inG s ∧ ∀ j, -1 ≤ T.getD j 0 ∧ T.getD j 0 ≤ 100])
  | _, _ => .none
theorem m1_rng {p : List Int} {rows : List (List Int)} (hd : okD p) (hs : ∀ s ∈ rows, isP p s = true) (j : Nat) : -1 ≤ (m1 (bfsD p rows)).getD j 0 ∧ (m1 (bfsD p rows)).getD j 0 ≤ 100 := by
  obtain ⟨h1, h2⟩ := bfsD_wf hd hs
  by_cases hj : j < (bfsD p rows).length
  · have := h2 j
    rw [m1_get hj]; omega
  · have : (m1 (bfsD p rows)).getD j 0 = 0 := by
      rw [List.getD_eq_getElem?_getD, List.getElem?_eq_none (by unfold m1; rw [List.length_map]; omega)]; rfl
    rw [this]; omega
end Go.Proofs.YtjbgjgkogmlpfaaGreat

namespace Go.Proofs.YtjbgjgkogmlpfaaGreat
open Go Go.Eng
set_option linter.unusedSimpArgs false
set_option linter.unusedVariables false
set_option maxRecDepth 100000
set_option maxHeartbeats 4000000

/-- Is the cell reached? -/
def inT (T : List Int) (c : List Int) : Bool := decide (0 ≤ T.getD (cx c) 0)
noncomputable def yardR (p s : List Int) : List (List Int) := spotsF (inT (m1 (bfsD p [s]))) (p.getD 0 0).toNat (p.getD 1 0).toNat

def inTS : Fun
  | [.ag .spot c, .pw 0 .grid], [.c .grid T] => some (.b (inT T c), [.c .grid T], [inG c ∧ ∀ j, -1 ≤ T.getD j 0 ∧ T.getD j 0 ≤ 100])
  | _, _ => .none

noncomputable def yardOS : Fun
  | [.ag .pas p, .ag .spot s], [] => some (.ow 0 (yardR p s).length .spot 54, [.l .spot (yardR p s)], [okD p ∧ isP p s = true])
  | _, _ => .none

noncomputable def yardFS : Fun
  | [.pw 0 .pas, .ag .spot s], [.c .pas p] => some (.fs .spot (yardR p s), [.c .pas p], [okD p ∧ isP p s = true])
  | _, _ => .none
end Go.Proofs.YtjbgjgkogmlpfaaGreat

namespace Go.Proofs.YtjbgjgkogmlpfaaGreat
open Go Go.Eng
set_option linter.unusedSimpArgs false
set_option linter.unusedVariables false
set_option maxRecDepth 100000
set_option maxHeartbeats 4000000

/-- The place of the grass of a cell. -/
def gx (s : List Int) : Nat := 2 + (s.getD 1 0).toNat * 10 + (s.getD 0 0).toNat
theorem gAt_gx (p s : List Int) : gAt p s = p.getD (gx s) 0 := by unfold gAt gx; rw [Nat.mul_one]
theorem quo4 {n m : Int} (h : 0 ≤ n) (h' : n ≤ m) : 0 ≤ n.tdiv 4 ∧ n.tdiv 4 ≤ m := by rw [Int.tdiv_eq_ediv_of_nonneg h]; omega

/-- All grass lies within bounds. -/
structure GR (p : List Int) : Prop where
  len : p.length = 122
  rng : ∀ s, inG s → 0 ≤ p.getD (gx s) 0 ∧ p.getD (gx s) 0 ≤ 1000

theorem gx_lt {s : List Int} (h : inG s) : gx s < 122 ∧ 2 ≤ gx s := by unfold inG at h; unfold gx; omega

theorem GR.of {p : List Int} (hl : p.length = 122) (h : okP p) : GR p := by
  refine ⟨hl, fun s hs => ?_⟩
  unfold inG at hs
  have := (h.2 (s.getD 1 0).toNat (by omega)).1 (s.getD 0 0).toNat (by omega)
  have h2 := And.intro this.1 this.2.1
  rw [Nat.mul_one] at h2
  exact h2

theorem sg_get {l : List Int} {i j : Nat} {v : Int} : (l.set i v).getD j 0 = if i = j ∧ j < l.length then v else l.getD j 0 := by
  rw [List.getD_eq_getElem?_getD, List.getD_eq_getElem?_getD, List.getElem?_set]
  by_cases h : i = j
  · subst h
    by_cases hl : i < l.length
    · simp [hl]
    · simp [hl]
  · simp [h]

theorem GR.set {p : List Int} (h : GR p) (i : Nat) {v : Int} (h0 : 0 ≤ v) (h1 : v ≤ 1000) : GR (p.set i v) := by
  refine ⟨by rw [List.length_set]; exact h.len, fun s hs => ?_⟩
  rw [sg_get]
  have := h.rng s hs
  split <;> omega

theorem sg_low {p : List Int} {i j : Nat} {v : Int} (hi : 2 ≤ i) (hj : j < 2) : (p.set i v).getD j 0 = p.getD j 0 := by
  rw [sg_get, if_neg (by omega)]

/-- The code of a pasture, a cell and a bound. -/
def boundC (p s : List Int) (q : Prop) [Decidable q] : Int := if codeP p [s] = 0 then (if q then 0 else 2) else codeP p [s]
theorem boundC_ok {p s : List Int} {q : Prop} [Decidable q] (h : boundC p s q = 0) : okP p ∧ isP p s = true ∧ q := by
  unfold boundC at h
  split at h
  · rename_i hc
    obtain ⟨h1, h2⟩ := codeP_all hc
    split at h
    · rename_i hd; exact ⟨h1, h2 s (List.mem_singleton.2 rfl), hd⟩
    · cases h
  · contradiction
theorem boundC_eq (p s : List Int) (q : Prop) [Decidable q] : boundC p s q = if q then codeP p [s] else if okP p then 2 else 1 := by
  unfold boundC
  rw [codeP_one]
  split <;> split <;> simp_all
theorem boundC_fst (p s : List Int) (q : Prop) [Decidable q] {f : List (List Int) → Int} (hf : f [[codeP p [s]], [if q then 0 else 2]] = if codeP p [s] = 0 then (if (if q then (0:Int) else 2) = 0 then 0 else (if q then 0 else 2)) else codeP p [s]) : f [[codeP p [s]], [if q then 0 else 2]] = boundC p s q := by
  rw [hf]
  unfold boundC
  split <;> (try split) <;> simp_all

theorem sameA_a3 {k k' : IntKind} {σ : Sg} {a b : List Int} {c d e f : Int} (h : a = b) (h' : c = d) (h'' : e = f) : sameA (.t3 (.ag σ a) (.i k c) (.i k' e)) (.t3 (.ag σ b) (.i k d) (.i k' f)) := by subst h; subst h'; subst h''; exact sameA_refl _
end Go.Proofs.YtjbgjgkogmlpfaaGreat

namespace Go.Proofs.YtjbgjgkogmlpfaaGreat
open Go Go.Eng
set_option linter.unusedSimpArgs false
set_option linter.unusedVariables false
set_option maxRecDepth 100000
set_option maxHeartbeats 4000000

theorem rowF_in {f : List Int → Bool} {acc : List (List Int)} {y w : Nat} (hy : y < 10) (hw : w ≤ 10) (h : ∀ s ∈ acc, inG s ∧ s.length = 2) : ∀ x, x ≤ w → ∀ s ∈ rowF f acc y x, inG s ∧ s.length = 2 := by
  intro x
  induction x with
  | zero => intro _; exact h
  | succ x ih =>
    intro hx s hs
    unfold rowF at hs
    split at hs
    · rcases List.mem_append.1 hs with hs | hs
      · exact ih (by omega) s hs
      · rw [List.mem_singleton.1 hs]
        exact ⟨by simp only [inG, List.getD_cons_zero, List.getD_cons_succ]; omega, rfl⟩
    · exact ih (by omega) s hs
theorem spotsF_in {f : List Int → Bool} {w : Nat} (hw : w ≤ 10) : ∀ y, y ≤ 10 → ∀ s ∈ spotsF f w y, inG s ∧ s.length = 2 := by
  intro y
  induction y with
  | zero => intro _ s hs; cases hs
  | succ y ih => intro hy; exact rowF_in (by omega) hw (ih (by omega)) w (Nat.le_refl _)
theorem yardR_cells {p s : List Int} (h : okD p) : cellsR (yardR p s) := by
  unfold okD at h
  exact spotsF_in (by omega) _ (by omega)
theorem yardR_100 {p s : List Int} (h : okD p) : (yardR p s).length ≤ 100 := by
  unfold okD at h
  have h1 := spotsF_len (inT (m1 (bfsD p [s]))) (p.getD 0 0).toNat (p.getD 1 0).toNat
  have h2 : (p.getD 0 0).toNat * (p.getD 1 0).toNat ≤ 10 * 10 := Nat.mul_le_mul (by omega) (by omega)
  unfold yardR; omega

noncomputable def yardZS : Fun
  | [.ag .pas p, .ag .spot s], [] => some (.fs .spot (yardR p s), [], [okD p ∧ isP p s = true])
  | _, _ => .none

theorem fst_bound (p s : List Int) (q : Prop) [Decidable q] : fstI [[codeP p [s]], [if q then 0 else 2]] = boundC p s q := by
  unfold boundC
  simp only [fstI, List.getD_cons_zero]
  split <;> (try split) <;> simp_all

def isLeaveS : Fun
  | [.i .i64 d], [] => some (.i .i64 (if 0 ≤ d ∧ d ≤ 1000 then 0 else 2), [], [])
  | _, _ => .none
def eatsS : Fun
  | [.i .i64 d], [] => some (.b (decide (0 ≤ d ∧ d ≤ 100000)), [], [])
  | _, _ => .none
end Go.Proofs.YtjbgjgkogmlpfaaGreat

namespace Go.Proofs.YtjbgjgkogmlpfaaGreat
open Go Go.Eng
set_option linter.unusedSimpArgs false
set_option linter.unusedVariables false
set_option maxRecDepth 100000
set_option maxHeartbeats 4000000

def putT (T : List Int) (v : Int) (rows : List (List Int)) : Nat → List Int
  | 0 => T
  | i + 1 => (putT T v rows i).set (cx (rows.getD i [])) v
def putM (es : List (List Int × Int)) (rows : List (List Int)) : Nat → List (List Int × Int)
  | 0 => es
  | i + 1 => upM (putM es rows i) (rows.getD i []) 1

abbrev YS := List Int × List (List (List Int)) × List (List Int × Int)
noncomputable def ySt (p : List Int) (S : YS) (c : List Int) : YS :=
  if 0 < S.1.getD (cx c) 0 then S else (putT S.1 ((S.2.1 ++ [yardR p c]).length : Int) (yardR p c) (yardR p c).length, S.2.1 ++ [yardR p c], putM S.2.2 (yardR p c) (yardR p c).length)
noncomputable def yF (p : List Int) (l : List (List Int)) : YS := l.foldl (ySt p) (List.replicate 100 0, [], [])
noncomputable def yT (p : List Int) (l : List (List Int)) : List Int := (yF p l).1
noncomputable def yL (p : List Int) (l : List (List Int)) : List (List (List Int)) := (yF p l).2.1
noncomputable def yM (p : List Int) (l : List (List Int)) : List (List Int × Int) := (yF p l).2.2

theorem yF_snoc (p : List Int) (l : List (List Int)) (c : List Int) : yF p (l ++ [c]) = ySt p (yF p l) c := by simp [yF, List.foldl_append]

theorem putT_len (T : List Int) (v : Int) (rows : List (List Int)) (i : Nat) : (putT T v rows i).length = T.length := by
  induction i with
  | zero => rfl
  | succ i ih => simp [putT, ih]
theorem getD_mem {α : Type} {l : List α} {i : Nat} {d : α} (h : i < l.length) : l.getD i d ∈ l := by
  rw [List.getD_eq_getElem?_getD, List.getElem?_eq_getElem h]; exact List.getElem_mem _
theorem putT_rng {T : List Int} {v : Int} {rows : List (List Int)} {b : Int} (h : ∀ j, 0 ≤ T.getD j 0 ∧ T.getD j 0 ≤ b) (h0 : 0 ≤ v) (h1 : v ≤ b) : ∀ i j, 0 ≤ (putT T v rows i).getD j 0 ∧ (putT T v rows i).getD j 0 ≤ b := by
  intro i
  induction i with
  | zero => exact h
  | succ i ih =>
    intro j
    unfold putT
    rw [set_get]
    split
    · exact ⟨h0, h1⟩
    · exact ih j
/-- The map and the table tell the same. -/
def sameTM (T : List Int) (es : List (List Int × Int)) : Prop := ∀ c, inG c → c.length = 2 → (lkM es c = 0 ∨ lkM es c = 1) ∧ (0 < T.getD (cx c) 0 ↔ lkM es c = 1)
theorem put_same {T : List Int} {es : List (List Int × Int)} (hT : T.length = 100) (h : sameTM T es) {v : Int} (hv : 0 < v) {rows : List (List Int)} (hr : cellsR rows) : ∀ i, i ≤ rows.length → sameTM (putT T v rows i) (putM es rows i) := by
  intro i
  induction i with
  | zero => intro _; exact h
  | succ i ih =>
    intro hi c hc lc
    have hm := hr _ (getD_mem (d := []) (show i < rows.length by omega))
    obtain ⟨h1, h2⟩ := ih (by omega) c hc lc
    have hlt := cx_lt hm.1
    unfold putT putM
    rw [set_get, lkM_upM, putT_len]
    by_cases e : cx (rows.getD i []) = cx c
    · have e2 := cx_inj hc hm.1 lc hm.2 e.symm
      rw [if_pos e2, if_pos ⟨e, by omega⟩]
      exact ⟨.inr rfl, fun _ => rfl, fun _ => hv⟩
    · rw [if_neg (fun e2 => e (by rw [← e2])), if_neg (fun h => e h.1)]
      exact ⟨h1, h2⟩

structure YOk (S : YS) (n : Nat) : Prop where
  len : S.1.length = 100
  ln : S.2.1.length ≤ n
  rg : ∀ j, 0 ≤ S.1.getD j 0 ∧ S.1.getD j 0 ≤ (S.2.1.length : Int)
  mp : sameTM S.1 S.2.2
theorem YOk.step {p : List Int} (hd : okD p) {S : YS} {n : Nat} (h : YOk S n) (c : List Int) : YOk (ySt p S c) (n + 1) := by
  unfold ySt
  split
  · exact ⟨h.len, Nat.le_succ_of_le h.ln, h.rg, h.mp⟩
  · refine ⟨by rw [putT_len]; exact h.len, by have := h.ln; simp; omega, ?_, ?_⟩
    · refine putT_rng (fun j => ⟨(h.rg j).1, ?_⟩) (by omega) (Int.le_refl _) _
      have := (h.rg j).2
      simp only [List.length_append, List.length_cons, List.length_nil]; omega
    · exact put_same h.len h.mp (by simp only [List.length_append, List.length_cons, List.length_nil]; omega) (yardR_cells hd) _ (Nat.le_refl _)
theorem yF_ok {p : List Int} (hd : okD p) (l : List (List Int)) : ∀ S n, YOk S n → YOk (l.foldl (ySt p) S) (n + l.length) := by
  induction l with
  | nil => intro S n h; exact h
  | cons c l ih =>
    intro S n h
    have := ih _ _ (h.step hd c)
    rw [List.foldl_cons, List.length_cons, show n + (l.length + 1) = n + 1 + l.length from by omega]
    exact this
theorem yOk {p : List Int} (hd : okD p) (l : List (List Int)) : YOk (yF p l) l.length := by
  have := yF_ok hd l (List.replicate 100 0, [], []) 0 ⟨by simp, by simp, fun j => ?_, fun c _ _ => ⟨.inl rfl, ?_⟩⟩
  · rw [Nat.zero_add] at this; exact this
  · have : (List.replicate 100 (0:Int)).getD j 0 = 0 := by
      rw [List.getD_eq_getElem?_getD, List.getElem?_replicate]; split <;> rfl
    simp only [this]; simp
  · have : (List.replicate 100 (0:Int)).getD (cx c) 0 = 0 := by
      rw [List.getD_eq_getElem?_getD, List.getElem?_replicate]; split <;> rfl
    simp only [this]; simp [lkM]
/-- Every yard is the yard of one of the cells. -/
theorem yL_mem {p : List Int} (l : List (List Int)) : ∀ S : YS, (∀ Y ∈ S.2.1, ∃ c, Y = yardR p c) → ∀ Y ∈ (l.foldl (ySt p) S).2.1, ∃ c, Y = yardR p c := by
  induction l with
  | nil => intro S h; exact h
  | cons c l ih =>
    intro S h
    refine ih _ ?_
    intro Y hY
    unfold ySt at hY
    split at hY
    · exact h Y hY
    · rcases List.mem_append.1 hY with hY | hY
      · exact h Y hY
      · exact ⟨c, List.mem_singleton.1 hY⟩
theorem yL_cells {p : List Int} (hd : okD p) {l : List (List Int)} {Y : List (List Int)} (h : Y ∈ yL p l) : cellsR Y ∧ Y.length ≤ 100 := by
  obtain ⟨c, rfl⟩ := yL_mem l (List.replicate 100 0, [], []) (fun Y h => by cases h) Y h
  exact ⟨yardR_cells hd, yardR_100 hd⟩

theorem y_yes {p : List Int} {l : List (List Int)} {c : List Int} (h : ¬ 0 < (yT p l).getD (cx c) 0) : yT p (l ++ [c]) = putT (yT p l) ((yL p l ++ [yardR p c]).length : Int) (yardR p c) (yardR p c).length ∧ yL p (l ++ [c]) = yL p l ++ [yardR p c] ∧ yM p (l ++ [c]) = putM (yM p l) (yardR p c) (yardR p c).length := by
  unfold yT yL yM at *
  rw [yF_snoc]
  unfold ySt
  rw [if_neg h]
  exact ⟨rfl, rfl, rfl⟩
theorem y_no {p : List Int} {l : List (List Int)} {c : List Int} (h : 0 < (yT p l).getD (cx c) 0) : yT p (l ++ [c]) = yT p l ∧ yL p (l ++ [c]) = yL p l ∧ yM p (l ++ [c]) = yM p l := by
  unfold yT yL yM at *
  rw [yF_snoc]
  unfold ySt
  rw [if_pos h]
  exact ⟨rfl, rfl, rfl⟩

theorem rowA_isP {acc : List (List Int)} {p : List Int} {y w : Nat} (hy : (y : Int) < p.getD 1 0) (hw : (w : Int) ≤ p.getD 0 0) (h : ∀ s ∈ acc, isP p s = true ∧ s.length = 2) : ∀ x, x ≤ w → ∀ s ∈ rowA acc y x, isP p s = true ∧ s.length = 2 := by
  intro x
  induction x with
  | zero => intro _; exact h
  | succ x ih =>
    intro hx s hs
    unfold rowA at hs
    rcases List.mem_append.1 hs with hs | hs
    · exact ih (by omega) s hs
    · rw [List.mem_singleton.1 hs]
      refine ⟨?_, rfl⟩
      unfold isP
      simp only [List.getD_cons_zero, List.getD_cons_succ, decide_eq_true_eq]; omega
theorem spotsY_isP {p : List Int} {w : Nat} (hw : (w : Int) ≤ p.getD 0 0) : ∀ y : Nat, (y : Int) ≤ p.getD 1 0 → ∀ s ∈ spotsY w y, isP p s = true ∧ s.length = 2 := by
  intro y
  induction y with
  | zero => intro _ s hs; cases hs
  | succ y ih => intro hy; exact rowA_isP (by omega) hw (ih (by omega)) w (Nat.le_refl _)
theorem spots_in {p : List Int} (h : okD p) : ∀ s ∈ spots p, isP p s = true ∧ s.length = 2 := by
  unfold okD at h
  exact spotsY_isP (by omega) _ (by omega)
theorem spots_100 {p : List Int} (h : okD p) : (spots p).length ≤ 100 := by
  unfold okD at h
  unfold spots
  rw [spotsY_len]
  have h2 : (p.getD 0 0).toNat * (p.getD 1 0).toNat ≤ 10 * 10 := Nat.mul_le_mul (by omega) (by omega)
  omega
theorem inG_isP {p s : List Int} (hd : okD p) (h : isP p s = true) : inG s := by
  unfold isP at h
  unfold okD at hd
  have := of_decide_eq_true h
  unfold inG; omega

theorem yL_100 {p : List Int} (h : okD p) : (yL p (spots p)).length ≤ 100 := by
  have h1 := (yOk h (spots p)).ln
  have h2 := spots_100 h
  unfold yL; omega

noncomputable def yardsZS : Fun
  | [.ag .pas p], [] => some (.fz .spot (yL p (spots p)), [], [okD p])
  | _, _ => .none

noncomputable def numsS : Fun
  | [.pw 0 .pas], [.c .pas p] => some (.t2 (.ag .lgrid (yT p (spots p))) (.fz .spot (yL p (spots p))), [.c .pas p], [okD p])
  | _, _ => .none
end Go.Proofs.YtjbgjgkogmlpfaaGreat

namespace Go.Proofs.YtjbgjgkogmlpfaaGreat
open Go Go.Eng
set_option linter.unusedSimpArgs false
set_option linter.unusedVariables false
set_option maxRecDepth 100000
set_option maxHeartbeats 4000000

/-- Every numbered cell is the start, or was met from one that is one nearer. -/
def okSt (p b : List Int) (st : List Int × List (List Int)) : Prop := (∀ q ∈ st.2, q.length = 2) ∧
  ∀ n, inG n → n.length = 2 → 0 < st.1.getD (cx n) 0 → (n = b ∧ st.1.getD (cx n) 0 = 1) ∨ ∃ (m : List Int) (d : Nat), isP p m = true ∧ m.length = 2 ∧ d < 4 ∧ canGo p m (d : Int) = true ∧ n = ahead m (d : Int) ∧ 0 < st.1.getD (cx m) 0 ∧ st.1.getD (cx m) 0 + 1 = st.1.getD (cx n) 0

theorem meet_okSt {p b now : List Int} {k : Nat} {st : List Int × List (List Int)} (hd : okD p) (hw : WF p k st) (h : okSt p b st) (hp : isP p now = true) (hl : now.length = 2) (hpos : 0 < st.1.getD (cx now) 0) {d : Nat} (hdl : d < 4) (hg : canGo p now (d : Int) = true) : okSt p b (meet now st (ahead now (d : Int))) ∧ 0 < (meet now st (ahead now (d : Int))).1.getD (cx now) 0 := by
  have hn : isP p (ahead now (d : Int)) = true := by unfold canGo at hg; rw [Bool.and_eq_true] at hg; exact hg.1
  have hnG := inG_of' hd hn
  have hlt := cx_lt hnG
  unfold meet
  split
  · rename_i hz
    have hne : cx (ahead now (d : Int)) ≠ cx now := fun e => by rw [e] at hz; omega
    have keep : ∀ j, 0 < st.1.getD j 0 → (st.1.set (cx (ahead now (d : Int))) (st.1.getD (cx now) 0 + 1)).getD j 0 = st.1.getD j 0 := fun j hj => by
      rw [set_get, if_neg]
      rintro ⟨e, -⟩
      rw [e] at hz; omega
    have hit : (st.1.set (cx (ahead now (d : Int))) (st.1.getD (cx now) 0 + 1)).getD (cx (ahead now (d : Int))) 0 = st.1.getD (cx now) 0 + 1 := by
      rw [set_get, if_pos ⟨rfl, by rw [hw.len]; exact hlt⟩]
    refine ⟨⟨fun q hq => ?_, fun n hnn hnl hnp => ?_⟩, by dsimp only; rw [keep _ hpos]; exact hpos⟩
    · rcases List.mem_append.1 hq with hq | hq
      · exact h.1 q hq
      · rw [List.mem_singleton.1 hq]; exact ahead_len _ _
    · dsimp only at hnp ⊢
      by_cases e : cx n = cx (ahead now (d : Int))
      · have e2 := cx_inj hnn hnG hnl (ahead_len _ _) e
        subst e2
        refine .inr ⟨now, d, hp, hl, hdl, hg, rfl, ?_, ?_⟩
        · rw [keep _ hpos]; exact hpos
        · rw [keep _ hpos, hit]
      · have e3 : (st.1.set (cx (ahead now (d : Int))) (st.1.getD (cx now) 0 + 1)).getD (cx n) 0 = st.1.getD (cx n) 0 := by
          rw [set_get, if_neg (fun h => e h.1.symm)]
        rw [e3] at hnp ⊢
        rcases h.2 n hnn hnl hnp with h1 | ⟨m, d', g1, g2, g3, g4, g5, g6, g7⟩
        · exact .inl h1
        · exact .inr ⟨m, d', g1, g2, g3, g4, g5, by rw [keep _ g6]; exact g6, by rw [keep _ g6]; exact g7⟩
  · exact ⟨h, hpos⟩
theorem goS_okSt {p b now : List Int} {k : Nat} {st : List Int × List (List Int)} (hd : okD p) (hw : WF p k st) (h : okSt p b st) (hp : isP p now = true) (hl : now.length = 2) (hpos : 0 < st.1.getD (cx now) 0) : ∀ d, d ≤ 4 → WF p k (goS p now st d) ∧ okSt p b (goS p now st d) ∧ 0 < (goS p now st d).1.getD (cx now) 0 := by
  intro d
  induction d with
  | zero => intro _; exact ⟨hw, h, hpos⟩
  | succ d ih =>
    intro hd4
    obtain ⟨i1, i2, i3⟩ := ih (by omega)
    unfold goS
    split
    · rename_i hg
      have hn : isP p (ahead now (d : Int)) = true := by unfold canGo at hg; rw [Bool.and_eq_true] at hg; exact hg.1
      obtain ⟨j1, j2⟩ := meet_okSt hd i1 i2 hp hl i3 (by omega) hg
      exact ⟨i1.meet hd hn, j1, j2⟩
    · exact ⟨i1, i2, i3⟩
theorem stI_okSt {p b : List Int} (hd : okD p) (hb : isP p b = true) (hbl : b.length = 2) : ∀ i, okSt p b (stI p [b] i) := by
  intro i
  induction i with
  | zero =>
    refine ⟨fun q hq => by rw [List.mem_singleton.1 hq]; exact hbl, fun n hn hnl hnp => .inl ?_⟩
    have hbG := inG_of' hd hb
    have hg : ∀ j, ((List.replicate 100 (0:Int)).set (cx b) 1).getD j 0 = if cx b = j ∧ j < 100 then 1 else 0 := fun j => by
      rw [set_get, List.length_replicate]
      split
      · rfl
      · rw [List.getD_eq_getElem?_getD, List.getElem?_replicate]; split <;> rfl
    have e : (stI p [b] 0).1 = (List.replicate 100 (0:Int)).set (cx b) 1 := rfl
    rw [e, hg] at hnp ⊢
    split at hnp
    · rename_i hc
      exact ⟨cx_inj hn hbG hnl hbl hc.1.symm, if_pos hc⟩
    · omega
  | succ i ih =>
    have hw := WF.stI hd (one_isP hb) i
    unfold stI
    split
    · rename_i hi
      have hm : (stI p [b] i).2.getD i [] ∈ (stI p [b] i).2 := by rw [List.getD_eq_getElem?_getD, List.getElem?_eq_getElem hi]; exact List.getElem_mem _
      exact (goS_okSt hd hw ih (hw.cells _ hm) (ih.1 _ hm) (hw.pos _ hm) 4 (Nat.le_refl _)).2.1
    · exact ih

theorem go_back {p m : List Int} {d : Nat} (hm : isP p m = true) (hl : m.length = 2) (hd : d < 4) (h : canGo p m (d : Int) = true) : ∃ d' : Nat, d' < 4 ∧ canGo p (ahead m (d : Int)) (d' : Int) = true ∧ ahead (ahead m (d : Int)) (d' : Int) = m := by
  obtain ⟨a, b, rfl⟩ := len2 hl
  have key : ∀ d' : Nat, d' < 4 → ahead (ahead [a, b] (d : Int)) (d' : Int) = [a, b] → hurdleAt (ahead [a, b] (d : Int)) (d' : Int) = hurdleAt [a, b] (d : Int) → ∃ d' : Nat, d' < 4 ∧ canGo p (ahead [a, b] (d : Int)) (d' : Int) = true ∧ ahead (ahead [a, b] (d : Int)) (d' : Int) = [a, b] := fun d' h1 h2 h3 => by
    refine ⟨d', h1, ?_, h2⟩
    unfold canGo at h ⊢
    rw [Bool.and_eq_true] at h
    rw [h2, h3, hm, h.2]; rfl
  have hcase : d = 0 ∨ d = 1 ∨ d = 2 ∨ d = 3 := by omega
  rcases hcase with rfl | rfl | rfl | rfl
  · refine key 2 (by omega) ?_ ?_ <;> simp [ahead, hurdleAt]
  · refine key 3 (by omega) ?_ ?_ <;> simp [ahead, hurdleAt]
  · refine key 0 (by omega) ?_ ?_ <;> simp [ahead, hurdleAt]
  · refine key 1 (by omega) ?_ ?_ <;> simp [ahead, hurdleAt]

theorem besN_mem {p s : List Int} {d' : Nat} (h : canGo p s (d' : Int) = true) : ∀ d, d' < d → ahead s (d' : Int) ∈ besN p s d := by
  intro d
  induction d with
  | zero => intro h; omega
  | succ d ih =>
    intro hd
    unfold besN
    by_cases e : d' = d
    · subst e
      rw [if_pos h]
      exact List.mem_append.2 (.inr (List.mem_singleton.2 rfl))
    · split
      · exact List.mem_append.2 (.inl (ih (by omega)))
      · exact ih (by omega)

/-- From a cell that is reached, not the start, a step leads one nearer. -/
theorem bfs_prev {p b s : List Int} (hd : okD p) (hb : isP p b = true) (hbl : b.length = 2) (hs : isP p s = true) (hl : s.length = 2) (hpos : 0 < (bfsD p [b]).getD (cx s) 0) :
    (s = b ∧ (bfsD p [b]).getD (cx s) 0 = 1) ∨ ∃ c ∈ besN p s 4, isP p c = true ∧ c.length = 2 ∧ 0 < (bfsD p [b]).getD (cx c) 0 ∧ (bfsD p [b]).getD (cx c) 0 = (bfsD p [b]).getD (cx s) 0 - 1 := by
  have h := stI_okSt hd hb hbl ([b].length + 101)
  rw [bfsD_eq] at hpos ⊢
  rcases h.2 s (inG_of' hd hs) hl hpos with h1 | ⟨m, d, g1, g2, g3, g4, g5, g6, g7⟩
  · exact .inl h1
  · obtain ⟨d', k1, k2, k3⟩ := go_back g1 g2 g3 g4
    rw [← g5] at k2 k3
    refine .inr ⟨m, ?_, g1, g2, g6, by omega⟩
    have := besN_mem k2 4 k1
    rw [k3] at this
    exact this
end Go.Proofs.YtjbgjgkogmlpfaaGreat
