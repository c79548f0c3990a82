/- A row of cells, sorted by the library. -/
import Derived.Test.YtjbgjgkogmlpfaaGreatSortLay
import Derived.Test.YtjbgjgkogmlpfaaGreatEngG
import Derived.Test.YtjbgjgkogmlpfaaGreatWay2
namespace Go.Proofs.YtjbgjgkogmlpfaaGreat
open Go Go.Eng Go.Sort Go.Shelf Go.RowKit
set_option maxRecDepth 100000
set_option maxHeartbeats 4000000

theorem cmpSpot_calls (x y : RowT .spot) (W : World) : Calls Tryz.prog 67 #[.agg (encR .spot x).toArray, .agg (encR .spot y).toArray] W fun e w' => e = .returned (.int .i64 (cmpI x.1 y.1)) ∧ ∃ q os', w' = grow (W.drewN q) os' := by
  obtain ⟨x, hx, ox⟩ := x
  obtain ⟨y, hy, oy⟩ := y
  obtain ⟨x0, x1, rfl⟩ := len2 hx
  obtain ⟨y0, y1, rfl⟩ := len2 hy
  have hr : (-128 ≤ x0 ∧ x0 ≤ 127) ∧ (-128 ≤ x1 ∧ x1 ≤ 127) ∧ (-128 ≤ y0 ∧ y0 ≤ 127) ∧ (-128 ≤ y1 ∧ y1 ≤ 127) := by
    simp [cellsOk, Sg.flat, flats, CK.ok, rng, lo, hi] at ox oy
    omega
  show Calls Tryz.prog 67 #[.agg #[.int .i8 x0, .int .i8 x1], .agg #[.int .i8 y0, .int .i8 y1]] W _
  have h1 : x1 ≠ y1 → cmpI [x0, x1] [y0, y1] = x1 - y1 := fun h => if_pos h
  have h2 : x1 = y1 → cmpI [x0, x1] [y0, y1] = x0 - y0 := fun h => if_neg (fun g => g h)
  show Calls _ _ _ _ fun e w' => e = .returned (.int .i64 (cmpI [x0, x1] [y0, y1])) ∧ _
  generalize cmpI [x0, x1] [y0, y1] = r at *
  clear hx hy ox oy
  go_enter Tryz.func67, Tryz.ntmps67
  go_wp2
  · rename_i h
    go_ret
    rw [h1 (by simpa using h)]
    exact ⟨rfl, 0, _, by rw [alloc_eq_grow, alloc_eq_grow, grow_grow]; rfl⟩
  · rename_i h
    go_ret
    rw [h2 (by simpa using h)]
    exact ⟨rfl, 0, _, by rw [alloc_eq_grow, alloc_eq_grow, grow_grow]; rfl⟩
theorem ltSpot (x y : RowT .spot) : ltOf (fun x y : RowT .spot => cmpI x.1 y.1) x y = lessS x.1 y.1 := by
  unfold ltOf
  cases h : lessS x.1 y.1 with
  | true => exact decide_eq_true ((cmp_less _ _).2 h)
  | false => exact decide_eq_false fun g => by rw [(cmp_less _ _).1 g] at h; cases h
theorem less_iff (x y : List Int) : lessS x y = true ↔ (x.getD 1 0 < y.getD 1 0 ∨ (x.getD 1 0 = y.getD 1 0 ∧ x.getD 0 0 < y.getD 0 0)) := by
  unfold lessS; rw [decide_eq_true_eq]
theorem less_not (x y : List Int) : lessS x y = false ↔ ¬ (x.getD 1 0 < y.getD 1 0 ∨ (x.getD 1 0 = y.getD 1 0 ∧ x.getD 0 0 < y.getD 0 0)) := by
  unfold lessS; rw [decide_eq_false_iff_not]
theorem swoSpot : SWO (ltOf fun x y : RowT .spot => cmpI x.1 y.1) where
  irrefl x := by rw [ltSpot, less_not]; omega
  trans x y z h1 h2 := by rw [ltSpot, less_iff] at *; omega
  ntrans x y z h1 h2 := by rw [ltSpot, less_not] at *; omega
theorem totSpot (x y : RowT .spot) (h1 : ltOf (fun x y : RowT .spot => cmpI x.1 y.1) x y = false) (h2 : ltOf (fun x y : RowT .spot => cmpI x.1 y.1) y x = false) : x = y := by
  rw [ltSpot, less_not] at h1 h2
  obtain ⟨x, hx, ox⟩ := x
  obtain ⟨y, hy, oy⟩ := y
  obtain ⟨x0, x1, rfl⟩ := len2 hx
  obtain ⟨y0, y1, rfl⟩ := len2 hy
  simp only [List.getD_cons_zero, List.getD_cons_succ] at h1 h2
  have e1 : x0 = y0 := by omega
  have e2 : x1 = y1 := by omega
  subst e1; subst e2; rfl
theorem s_sortSpot : Sound Tryz.prog 76 (sortS .spot 54 67 cmpI) := by
  refine sort_sound rfl (by decide) fun blk cap d w hH hb hs => ?_
  have eg : ∀ args w, (callFunc 67 args).run Tryz.prog w = .ok (.enter 67 args) w := enters_of Tryz.func67 (by kernel_rfl) rfl
  exact AnyQ.slices_SortFunc_total Tryz.sortSpot 2 (fun w => Tryz.isAgg54 w) (fun w => Tryz.sizeOf54 w) (encR .spot) (encR_len rfl) (fun x v hv => cellsV_one _ _ v hv) (fun x y => cmpI x.1 y.1) swoSpot 67 #[] blk 0 cap d w eg
    (fun m os dk _ x y => cmpSpot_calls x y _) hH hb hs totSpot
end Go.Proofs.YtjbgjgkogmlpfaaGreat
