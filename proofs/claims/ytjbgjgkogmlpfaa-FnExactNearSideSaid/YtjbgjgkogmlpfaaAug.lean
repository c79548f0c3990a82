/- A search over a table of flows, plain: one more runs where the goal is found, and what is seen where it is not. -/
import Derived.Test.YtjbgjgkogmlpfaaNear
namespace Go.Proofs.Ytjbgjgkogmlpfaa.Fl
open Go Go.Eng
set_option linter.unusedSimpArgs false
set_option linter.unusedVariables false
set_option maxRecDepth 100000
set_option maxHeartbeats 4000000

def ix (s : List Int) : Nat := (s.getD 1 0).toNat * 10 + (s.getD 0 0).toNat
def ah (s : List Int) (d : Int) : List Int :=
  if d = 0 then [s.getD 0 0, s.getD 1 0 - 1] else if d = 1 then [s.getD 0 0 + 1, s.getD 1 0] else if d = 2 then [s.getD 0 0, s.getD 1 0 + 1] else [s.getD 0 0 - 1, s.getD 1 0]
theorem ix_cl {k : Nat} (hk : k < 100) : ix (cl k) = k := by
  show (((k / 10 : Nat) : Int)).toNat * 10 + (((k % 10 : Nat) : Int)).toNat = k
  omega
theorem cl_ix {s : List Int} (h : isC s) : cl (ix s) = s ∧ ix s < 100 := by
  obtain ⟨k, hk, rfl⟩ := h
  rw [ix_cl hk]; exact ⟨rfl, hk⟩
theorem ix_inj {s t : List Int} (hs : isC s) (ht : isC t) (h : ix s = ix t) : s = t := by
  rw [← (cl_ix hs).1, ← (cl_ix ht).1, h]
def fAt (fl : List Int) (s : List Int) (d : Int) : Int :=
  if d = 0 then - fl.getD (100 + ix (ah s 0)) 0 else if d = 1 then fl.getD (ix s) 0 else if d = 2 then fl.getD (100 + ix s) 0 else - fl.getD (ix (ah s 3)) 0
def fAdd (fl : List Int) (s : List Int) (d : Int) : List Int :=
  if d = 0 then fl.set (100 + ix (ah s 0)) (fl.getD (100 + ix (ah s 0)) 0 - 1) else if d = 1 then fl.set (ix s) (fl.getD (ix s) 0 + 1)
  else if d = 2 then fl.set (100 + ix s) (fl.getD (100 + ix s) 0 + 1) else fl.set (ix (ah s 3)) (fl.getD (ix (ah s 3)) 0 - 1)
theorem fAdd_len (fl : List Int) (s : List Int) (d : Int) : (fAdd fl s d).length = fl.length := by
  unfold fAdd; split <;> (try split) <;> (try split) <;> exact List.length_set
def gE (fl : List Int) (u v : Nat) : Int := (if v = u + 1 ∧ u % 10 ≠ 9 then fl.getD u 0 else 0) + (if v = u + 10 then fl.getD (100 + u) 0 else 0)
def matT (fl : List Int) (u v : Nat) : Int := gE fl u v - gE fl v u
/-- What lies on a side. -/
theorem ah_cl {u v : Nat} {d : Int} (hd : 0 ≤ d ∧ d < 4) (hu : u < 100) (hv : v < 100) (h : ah (cl u) d = cl v) :
    (d = 0 ∧ u = v + 10) ∨ (d = 1 ∧ v = u + 1 ∧ u % 10 ≠ 9) ∨ (d = 2 ∧ v = u + 10) ∨ (d = 3 ∧ u = v + 1 ∧ v % 10 ≠ 9) := by
  unfold ah cl at h
  have hc : d = 0 ∨ d = 1 ∨ d = 2 ∨ d = 3 := by omega
  rcases hc with rfl | rfl | rfl | rfl
  · simp only [if_pos, List.getD_cons_zero, List.getD_cons_succ, List.cons.injEq, and_true] at h
    omega
  · rw [if_neg (by decide), if_pos rfl] at h
    simp only [List.getD_cons_zero, List.getD_cons_succ, List.cons.injEq, and_true] at h
    omega
  · rw [if_neg (by decide), if_neg (by decide), if_pos rfl] at h
    simp only [List.getD_cons_zero, List.getD_cons_succ, List.cons.injEq, and_true] at h
    omega
  · rw [if_neg (by decide), if_neg (by decide), if_neg (by decide)] at h
    simp only [List.getD_cons_zero, List.getD_cons_succ, List.cons.injEq, and_true] at h
    omega
theorem fAt_mat {fl : List Int} {u v : Nat} {d : Int} (hd : 0 ≤ d ∧ d < 4) (hu : u < 100) (hv : v < 100) (h : ah (cl u) d = cl v) : fAt fl (cl u) d = matT fl u v := by
  have hx := ix_cl hu
  have hy := ix_cl hv
  rcases ah_cl hd hu hv h with ⟨rfl, e⟩ | ⟨rfl, e, e'⟩ | ⟨rfl, e⟩ | ⟨rfl, e, e'⟩
  · unfold fAt matT gE
    rw [if_pos rfl, h, hy, if_neg (by omega), if_neg (by omega), if_neg (by omega), if_pos (by omega)]; omega
  · unfold fAt matT gE
    rw [if_neg (by decide), if_pos rfl, hx, if_pos ⟨e, e'⟩, if_neg (by omega), if_neg (by omega), if_neg (by omega)]; omega
  · unfold fAt matT gE
    rw [if_neg (by decide), if_neg (by decide), if_pos rfl, hx, if_neg (by omega), if_pos e, if_neg (by omega), if_neg (by omega)]; omega
  · unfold fAt matT gE
    rw [if_neg (by decide), if_neg (by decide), if_neg (by decide), h, hy, if_neg (by omega), if_neg (by omega), if_pos ⟨e, e'⟩, if_neg (by omega)]; omega
theorem set_at {l : List Int} {i j : Nat} {v : Int} (hj : j < l.length) : (l.set i v).getD j 0 = if i = j then v else l.getD j 0 := by
  rw [List.getD_eq_getElem?_getD, List.getElem?_set, List.getD_eq_getElem?_getD]
  by_cases h : i = j
  · subst h; rw [if_pos rfl, if_pos hj, if_pos rfl]; rfl
  · rw [if_neg h, if_neg h]
theorem gE_e {fl : List Int} (hl : fl.length = 200) {u : Nat} (hu : u < 100) (x : Int) {a b : Nat} (ha : a < 100) : gE (fl.set u x) a b = gE fl a b + (if a = u ∧ b = u + 1 ∧ u % 10 ≠ 9 then x - fl.getD u 0 else 0) := by
  unfold gE
  rw [set_at (by omega), set_at (by omega), if_neg (show ¬ u = 100 + a by omega)]
  by_cases h : u = a
  · subst h
    rw [if_pos rfl]
    (repeat' split) <;> omega
  · rw [if_neg h, if_neg fun g : a = u ∧ b = u + 1 ∧ u % 10 ≠ 9 => h g.1.symm]; omega
theorem gE_s {fl : List Int} (hl : fl.length = 200) {u : Nat} (hu : u < 100) (x : Int) {a b : Nat} (ha : a < 100) : gE (fl.set (100 + u) x) a b = gE fl a b + (if a = u ∧ b = u + 10 then x - fl.getD (100 + u) 0 else 0) := by
  unfold gE
  rw [set_at (by omega), set_at (by omega), if_neg (show ¬ 100 + u = a by omega)]
  by_cases h : u = a
  · subst h
    rw [if_pos rfl]
    (repeat' split) <;> omega
  · rw [if_neg (show ¬ 100 + u = 100 + a by omega), if_neg fun g : a = u ∧ b = u + 10 => h g.1.symm]; omega
theorem fAdd_mat {fl : List Int} (hl : fl.length = 200) {u v : Nat} {d : Int} (hd : 0 ≤ d ∧ d < 4) (hu : u < 100) (hv : v < 100) (h : ah (cl u) d = cl v) {a b : Nat} (ha : a < 100) (hb : b < 100) :
    matT (fAdd fl (cl u) d) a b = matT fl a b + (if a = u ∧ b = v then 1 else 0) - (if a = v ∧ b = u then 1 else 0) := by
  have hx := ix_cl hu
  have hy := ix_cl hv
  unfold matT
  rcases ah_cl hd hu hv h with ⟨rfl, e⟩ | ⟨rfl, e, e'⟩ | ⟨rfl, e⟩ | ⟨rfl, e, e'⟩
  · have ef : fAdd fl (cl u) 0 = fl.set (100 + v) (fl.getD (100 + v) 0 - 1) := by unfold fAdd; rw [if_pos rfl, h, hy]
    rw [ef, gE_s hl hv _ ha, gE_s hl hv _ hb]
    (repeat' split) <;> omega
  · have ef : fAdd fl (cl u) 1 = fl.set u (fl.getD u 0 + 1) := by unfold fAdd; rw [if_neg (by decide), if_pos rfl, hx]
    rw [ef, gE_e hl hu _ ha, gE_e hl hu _ hb]
    (repeat' split) <;> omega
  · have ef : fAdd fl (cl u) 2 = fl.set (100 + u) (fl.getD (100 + u) 0 + 1) := by unfold fAdd; rw [if_neg (by decide), if_neg (by decide), if_pos rfl, hx]
    rw [ef, gE_s hl hu _ ha, gE_s hl hu _ hb]
    (repeat' split) <;> omega
  · have ef : fAdd fl (cl u) 3 = fl.set v (fl.getD v 0 - 1) := by unfold fAdd; rw [if_neg (by decide), if_neg (by decide), if_neg (by decide), h, hy]
    rw [ef, gE_e hl hv _ ha, gE_e hl hv _ hb]
    (repeat' split) <;> omega
theorem sum_move {F F' : Nat → Nat → Int} {ks kt u : Nat} (hs : ks < 100) (ht : kt < 100)
    (h : ∀ v, v < 100 → F' u v = F u v + (if u = ks ∧ v = kt then 1 else 0) - (if u = kt ∧ v = ks then 1 else 0)) :
    sgN (F' u) 100 = sgN (F u) 100 + (if u = ks then 1 else 0) - (if u = kt then 1 else 0) := by
  have e1 : sgN (F' u) 100 = sgN (fun v => (F u v + (if v = kt then (if u = ks then 1 else 0) else 0)) + - (if v = ks then (if u = kt then 1 else 0) else 0)) 100 :=
    sgN_congr 100 fun v hv => by
      rw [h v hv]
      (repeat' split) <;> omega
  rw [e1, sgN_add, sgN_neg, sgN_add, sgN_one, sgN_one, if_pos ht, if_pos hs]
  omega
end Go.Proofs.Ytjbgjgkogmlpfaa.Fl
