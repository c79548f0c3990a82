/- impl.partCode: both lists' cells, and those that they share. -/
import Derived.Test.YtjbgjgkogmlpfaaGreatGrowLay
import Derived.Test.YtjbgjgkogmlpfaaGreatNearS
import Derived.Test.YtjbgjgkogmlpfaaGreatEngG
namespace Go.Proofs.YtjbgjgkogmlpfaaGreat
open Go Go.Eng
set_option linter.unusedSimpArgs false
set_option linter.unusedVariables false
set_option maxRecDepth 100000
set_option maxHeartbeats 4000000

def growSS : Fun
  | [.nsl, .i .i64 n], [] => some (.ow 0 0 .spot 54, [.l .spot []], [0 < n ∧ n ≤ 100000000])
  | _, _ => .none
theorem s_growS : Sound Tryz.prog 55 growSS := by
  intro args M r M' vs h hvs
  unfold growSS at h
  split at h
  case h_2 => cases h
  rename_i n
  cases h
  obtain ⟨⟨h1, h2⟩, -⟩ := hvs
  intro ρ vals w hD hM hid
  match vals, hD with
  | [v, u], ⟨hv, hu, _⟩ =>
  obtain rfl : v = .slice none 0 0 := hv
  obtain ⟨rfl, -⟩ := hu
  obtain ⟨k, rfl⟩ : ∃ k : Nat, n = (k : Int) := ⟨n.toNat, by omega⟩
  obtain ⟨ti, z, hi, hsz, hz, hzo, hby⟩ := Γ_ok.parts5 (t := 54) (σ := .spot) rfl (by decide)
  have hs2 : ti.size = 2 := hsz
  have hzs : z.cells.size = 2 := by
    rw [zero_cells rfl hzo]; rfl
  refine (Go.Proofs.Any8.slices_Grow_grow Tryz.growS ti z hi hz (by omega) none 0 0 k [] w (Nat.le_refl _) (by omega) (by
    have : (0 + k) * ti.bytes ≤ 100000000 * 4096 := Nat.mul_le_mul (by omega) hby
    omega) (by omega) (by simp) (fun _ => rfl) (fun a h => by cases h)).mono ?_
  rintro e w' ⟨rfl, rfl⟩
  have hge := grownCap_ge w (0 + k) 0 54
  have hle := grownCap_le_maxLen w (0 + k) 0 54 (by simp only [maxLen]; omega)
  have hbb : ∀ o, w.grownBy (w.drew.alloc o) none := fun o => ⟨rfl, rfl, rfl, by simp, fun k hk _ => heap_alloc_old w.drew _ hk⟩
  refine ⟨_, _, rfl, ⟨_, rfl, Nat.zero_le _, hle, rfl, by decide, rfl, rfl, rfl⟩, After.grown (M1 := []) hM (hbb _) (l := { blk := w.heap.size, size := 0 * 2, room := grownCap w (0 + k) 0 54 * 2, σ := .spot, ty := 54 }) (.inl rfl) (heap_alloc_new w.drew _) ⟨_, rfl, ?_, rfl, rfl, by decide, rfl, Nat.zero_le _, fun i row h => by simp at h⟩ rfl (fun vs e => by cases e) rfl (fun i c h => .inr h) (fun k h => by cases h) (fun i _ => by simp), fun i hii => ?_⟩
  · simp only [Array.size_append, List.size_toArray, size_zeroCells, hzs, List.length_nil]
    rw [show Tryz.growS_ren.t 25 = 54 from rfl]
    omega
  · simp [AV.ids] at hii
    subst hii
    exact Nat.zero_lt_one

/-! Two lists one behind the other. -/
def concS : Fun
  | [.ow 0 2 .ref 37], [.rf .spot [A, G]] => some (.fs .spot (A ++ G), [.rf .spot [A, G]], [0 < A.length + G.length ∧ A.length ≤ 10000000 ∧ G.length ≤ 10000000])
  | _, _ => .none
set_option maxRecDepth 100000 in
theorem s_conc : Sound Tryz.prog 35 concS := by
  intro args M r M' vs h hvs
  unfold concS at h
  split at h
  case h_2 => cases h
  rename_i A G
  cases h
  refine SpecOK.assume fun hA hM => ?_
  have htb := (TbOk.cons s_growS Tryz.func55 rfl rfl (TbOk.nil : TbOk Tryz.prog tb0))
  refine SpecOK.of_goes [0] Tryz.func35 rfl ?_
  obtain ⟨⟨h0, hl1, hl2⟩, -⟩ := hvs
  clear hA hM
  have g0 : [A, G].getD (Int.toNat 0) [] = A := rfl
  have g1 : [A, G].getD (Int.toNat (0 + 1)) [] = G := rfl
  refine Goes.tree Γ_ok htb 1000 true false Tryz.func35 rfl ?_
  ((try simp only [decide_eq_true_eq, decide_eq_false_iff_not, Bool.not_eq_true', Bool.not_eq_false', Bool.not_true, Bool.not_false, Bool.and_eq_true, Bool.or_eq_true, bne_iff_ne, beq_iff_eq, ne_eq]); (try simp only [rng, lo, hi, mnI, mxI, Int.toNat_natCast, Sg.n, Nat.mul_one, Nat.zero_add, Nat.add_zero, Nat.reduceAdd, List.getD_cons_zero, List.getD_cons_succ]))
  ((repeat' (first | (with_reducible apply And.intro) | intro _)); all_goals (first | exact trivial | (with_reducible assumption) | (show (_ : List Blk) = _; rfl) | (first | exact trivial | (with_reducible assumption) | omega | (split <;> omega) | (split <;> split <;> omega)) | skip); all_goals (try (refine ⟨rfl, (by first | exact Nat.le_refl _ | exact Nat.le_of_ble_eq_true rfl), rfl, rfl, ?_, (by repeat' (first | exact trivial | rfl | apply And.intro)), rfl, rfl⟩)))
  refine ⟨?_⟩
  refine Goes.tree Γ_ok htb 1000 true false Tryz.func35 rfl ?_
  ((try simp only [decide_eq_true_eq, decide_eq_false_iff_not, Bool.not_eq_true', Bool.not_eq_false', Bool.not_true, Bool.not_false, Bool.and_eq_true, Bool.or_eq_true, bne_iff_ne, beq_iff_eq, ne_eq]); (try simp only [rng, lo, hi, mnI, mxI, Int.toNat_natCast, Sg.n, Nat.mul_one, Nat.zero_add, Nat.add_zero, Nat.reduceAdd, List.getD_cons_zero, List.getD_cons_succ, g0, g1]))
  (repeat' (first | (with_reducible apply And.intro) | intro _))
  all_goals (try first | exact trivial | (first | exact trivial | (with_reducible assumption) | omega | (split <;> omega) | (split <;> split <;> omega)) | (exfalso; omega))
  refine ⟨?_⟩
  refine Goes.tree Γ_ok htb 1000 true false Tryz.func35 rfl ?_
  ((try simp only [decide_eq_true_eq, decide_eq_false_iff_not, Bool.not_eq_true', Bool.not_eq_false', Bool.not_true, Bool.not_false, Bool.and_eq_true, Bool.or_eq_true, bne_iff_ne, beq_iff_eq, ne_eq]); (try simp only [rng, lo, hi, mnI, mxI, Int.toNat_natCast, Sg.n, Nat.mul_one, Nat.zero_add, Nat.add_zero, Nat.reduceAdd, List.getD_cons_zero, List.getD_cons_succ, g0, g1]))
  (repeat' (first | (with_reducible apply And.intro) | intro _))
  all_goals (try first | exact trivial | (first | exact trivial | (with_reducible assumption) | omega | (split <;> omega) | (split <;> split <;> omega)) | (exfalso; omega))
  refine ⟨?_⟩
  refine Goes.tree Γ_ok htb 1000 true false Tryz.func35 rfl ?_
  ((try simp only [decide_eq_true_eq, decide_eq_false_iff_not, Bool.not_eq_true', Bool.not_eq_false', Bool.not_true, Bool.not_false, Bool.and_eq_true, Bool.or_eq_true, bne_iff_ne, beq_iff_eq, ne_eq]); (try simp only [rng, lo, hi, mnI, mxI, Int.toNat_natCast, Sg.n, Nat.mul_one, Nat.zero_add, Nat.add_zero, Nat.reduceAdd, List.getD_cons_zero, List.getD_cons_succ, g0, g1]))
  (repeat' (first | (with_reducible apply And.intro) | intro _))
  all_goals (try first | exact trivial | (first | exact trivial | (with_reducible assumption) | omega | (split <;> omega) | (split <;> split <;> omega)) | (exfalso; omega))
  refine ⟨?_⟩
  refine Goes.tree Γ_ok htb 1000 true false Tryz.func35 rfl ?_
  ((try simp only [decide_eq_true_eq, decide_eq_false_iff_not, Bool.not_eq_true', Bool.not_eq_false', Bool.not_true, Bool.not_false, Bool.and_eq_true, Bool.or_eq_true, bne_iff_ne, beq_iff_eq, ne_eq]); (try simp only [rng, lo, hi, mnI, mxI, Int.toNat_natCast, Sg.n, Nat.mul_one, Nat.zero_add, Nat.add_zero, Nat.reduceAdd, List.getD_cons_zero, List.getD_cons_succ, g0, g1]))
  (repeat' (first | (with_reducible apply And.intro) | intro _))
  all_goals (try first | exact trivial | (first | exact trivial | (with_reducible assumption) | omega | (split <;> omega) | (split <;> split <;> omega)) | (exfalso; omega) | (show List.length _ ≤ _; simp only [List.length_append, List.length_nil]; omega))
  refine ⟨?_⟩
  refine Goes.tree Γ_ok htb 1000 true false Tryz.func35 rfl ?_
  ((try simp only [decide_eq_true_eq, decide_eq_false_iff_not, Bool.not_eq_true', Bool.not_eq_false', Bool.not_true, Bool.not_false, Bool.and_eq_true, Bool.or_eq_true, bne_iff_ne, beq_iff_eq, ne_eq]); (try simp only [rng, lo, hi, mnI, mxI, Int.toNat_natCast, Sg.n, Nat.mul_one, Nat.zero_add, Nat.add_zero, Nat.reduceAdd, List.getD_cons_zero, List.getD_cons_succ, g0, g1]))
  (repeat' (first | (with_reducible apply And.intro) | intro _))
  all_goals (try first | exact trivial | (first | exact trivial | (with_reducible assumption) | omega | (split <;> omega) | (split <;> split <;> omega)) | (exfalso; omega) | (show List.length _ ≤ _; simp only [List.length_append, List.length_nil]; omega))
  refine ⟨?_⟩
  refine Goes.tree Γ_ok htb 1000 true false Tryz.func35 rfl ?_
  ((try simp only [decide_eq_true_eq, decide_eq_false_iff_not, Bool.not_eq_true', Bool.not_eq_false', Bool.not_true, Bool.not_false, Bool.and_eq_true, Bool.or_eq_true, bne_iff_ne, beq_iff_eq, ne_eq]); (try simp only [rng, lo, hi, mnI, mxI, Int.toNat_natCast, Sg.n, Nat.mul_one, Nat.zero_add, Nat.add_zero, Nat.reduceAdd, List.getD_cons_zero, List.getD_cons_succ, g0, g1]))
  (repeat' (first | (with_reducible apply And.intro) | intro _))
  all_goals (try first | exact trivial | (first | exact trivial | (with_reducible assumption) | omega | (split <;> omega) | (split <;> split <;> omega)) | (exfalso; omega) | (show List.length _ ≤ _; simp only [List.length_append, List.length_nil]; omega))
  (refine ⟨rfl, (by first | exact Nat.le_refl _ | exact Nat.le_of_ble_eq_true rfl), rfl, rfl, ?_, (by repeat' (first | exact trivial | rfl | apply And.intro)), rfl, rfl⟩)
  exact sameA_refl _
end Go.Proofs.YtjbgjgkogmlpfaaGreat
