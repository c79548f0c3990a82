/- A row of hurdles, sorted by the library. -/
import Derived.Test.YtjbgjgkogmlpfaaGreatSort1
import Derived.Deep.RegionHeld3
namespace Go.Proofs.YtjbgjgkogmlpfaaGreat
open Go Go.Eng Go.Sort Go.Shelf Go.RowKit
set_option maxRecDepth 100000
set_option maxHeartbeats 4000000

def cmpB (a b : Int) : Int := if a < b then -1 else if b < a then 1 else 0
def cmpH (a b : List Int) : Int := if cmpI [a.getD 0 0, a.getD 1 0] [b.getD 0 0, b.getD 1 0] ≠ 0 then cmpI [a.getD 0 0, a.getD 1 0] [b.getD 0 0, b.getD 1 0] else cmpB (a.getD 2 0) (b.getD 2 0)

theorem bit_calls (x : Bool) (W : World) : Calls Tryz.prog 69 #[.bool x] W fun e w' => e = .returned (.int .i64 (if x = true then 1 else 0)) ∧ w' = W := by
  go_enter Tryz.func69, Tryz.ntmps69
  cases x
  · go_wp2
    go_ret
    exact ⟨rfl, rfl⟩
  · go_wp2
    go_ret
    exact ⟨rfl, rfl⟩
theorem isNaN_calls (x : Int) (W : World) : Calls Tryz.prog 88 #[.int .i64 x] W fun e w' => e = .returned (.bool false) ∧ w' = W := by
  go_enter Tryz.func88, Tryz.ntmps88
  go_wp2
  go_ret
  simp
theorem cmp64_calls (x y : Int) (W : World) : Calls Tryz.prog 68 #[.int .i64 x, .int .i64 y] W fun e w' => e = .returned (.int .i64 (cmpB x y)) ∧ w' = W := by
  have h1 : x < y → cmpB x y = -1 := fun h => if_pos h
  have h2 : ¬ x < y → y < x → cmpB x y = 1 := fun h h' => by unfold cmpB; rw [if_neg h, if_pos h']
  have h3 : ¬ x < y → ¬ y < x → cmpB x y = 0 := fun h h' => by unfold cmpB; rw [if_neg h, if_neg h']
  have hn := isNaN_calls x
  have hm := isNaN_calls y
  generalize cmpB x y = r at *
  go_enter Tryz.func68, Tryz.ntmps68
  go_wp2_with (first | (go_at_call 88; refine (hn _).mono ?_; rintro e w' ⟨rfl, rfl⟩) | (go_at_call 88; refine (hm _).mono ?_; rintro e w' ⟨rfl, rfl⟩))
  all_goals (go_ret; refine ⟨?_, rfl⟩; first | (rw [h1 (by assumption)]; rfl) | (rw [h2 (by assumption) (by assumption)]; rfl) | (rw [h3 (by assumption) (by assumption)]; rfl))
theorem roundsS {P : Program} {c : Code} {Q : Exit → Act → World → Prop} {n m : Nat} {a : Act} {w : World} (hm : m = n + 1) (h : c.wp P (Exit.then (Code.rounds P c Q n) Q) a w) : Code.rounds P c Q m a w := by subst hm; exact h
theorem or_calls (g cap : Nat) (x y : Int) (W : World) (h0 : W.cell? ⟨g, 0, none⟩ = some (.int .i64 x)) (h1 : W.cell? ⟨g, 1, none⟩ = some (.int .i64 y)) :
    Calls Tryz.prog 66 #[.slice (some ⟨g, 0, none⟩) 2 cap] W fun e w' => e = .returned (.int .i64 (if x ≠ 0 then x else y)) ∧ w' = W := by
  have k1 : x ≠ 0 → (if x ≠ 0 then x else y) = x := fun h => if_pos h
  have k2 : x = 0 → (if x ≠ 0 then x else y) = y := fun h => if_neg (fun g => g h)
  generalize (if x ≠ 0 then x else y) = r at *
  go_enter Tryz.func66, Tryz.ntmps66
  go_wp2
  refine wp_loop_rounds 3 ?_
  rw [rounds_succ]
  go_wp2
  · rename_i h
    go_ret
    rw [k1 (by simpa using h)]
    exact ⟨rfl, rfl⟩
  · rename_i h
    have hr := k2 (by simpa using h)
    clear k1 k2 h
    refine roundsS (n := 1) rfl ?_
    go_wp2
    · go_ret
      rw [hr]
      exact ⟨rfl, rfl⟩
    · rename_i h
      refine roundsS (n := 0) rfl ?_
      go_wp2
      go_ret
      have : y = 0 := by simpa using h
      rw [hr, this]
      exact ⟨rfl, rfl⟩

theorem cell_grow {w : World} {b k : Nat} {v : Value} (h : w.cell? ⟨b, k, none⟩ = some v) (q : Nat) (os : Array Obj) : (grow (w.drewN q) os).cell? ⟨b, k, none⟩ = some v := by
  obtain ⟨c, e, fr, h1, h2⟩ := cells_of_cell? h
  have hb : b < w.heap.size := (Array.getElem?_eq_some_iff.1 h1).1
  rw [cell_of_row (grow (w.drewN q) os) b k c e fr (by show (w.heap ++ os)[b]? = _; rw [Array.getElem?_append_left hb]; exact h1)]
  exact h2
theorem cell_new (w : World) (cs : Array Value) (ty : TypeId) (b k : Nat) (hb : b = w.heap.size) : (w.alloc (.cells cs ty)).cell? ⟨b, k, none⟩ = cs[k]? := by
  subst hb
  rw [cell_of_row (w.alloc (.cells cs ty)) _ k cs ty (0, 0) (by show (w.heap.push _)[_]? = _; rw [Array.getElem?_push, if_pos rfl])]
theorem cell_old (w : World) (o : Obj) (b k : Nat) (v : Value) (h : w.cell? ⟨b, k, none⟩ = some v) : (w.alloc o).cell? ⟨b, k, none⟩ = some v := by
  rw [alloc_eq_grow]
  exact cell_grow h 0 #[o]
theorem grow_again (w : World) (q q' : Nat) (os os' : Array Obj) : grow ((grow (w.drewN q) os).drewN q') os' = grow (w.drewN (q + q')) (os ++ os') := by
  unfold grow World.drewN
  simp [Array.append_assoc, Nat.add_assoc]
theorem kG {W0 w : World} {b d : Nat} {c0 c1 c2 d0 d1 d2 : Value} (h : (∃ q os, w = grow (W0.drewN q) os) ∧ w.cell? ⟨b, 0, none⟩ = some c0 ∧ w.cell? ⟨b, 1, none⟩ = some c1 ∧ w.cell? ⟨b, 2, none⟩ = some c2 ∧ w.cell? ⟨d, 0, none⟩ = some d0 ∧ w.cell? ⟨d, 1, none⟩ = some d1 ∧ w.cell? ⟨d, 2, none⟩ = some d2) (q : Nat) (os : Array Obj) :
    (∃ q' os', grow (w.drewN q) os = grow (W0.drewN q') os') ∧ (grow (w.drewN q) os).cell? ⟨b, 0, none⟩ = some c0 ∧ (grow (w.drewN q) os).cell? ⟨b, 1, none⟩ = some c1 ∧ (grow (w.drewN q) os).cell? ⟨b, 2, none⟩ = some c2 ∧ (grow (w.drewN q) os).cell? ⟨d, 0, none⟩ = some d0 ∧ (grow (w.drewN q) os).cell? ⟨d, 1, none⟩ = some d1 ∧ (grow (w.drewN q) os).cell? ⟨d, 2, none⟩ = some d2 := by
  obtain ⟨⟨q0, os0, rfl⟩, h1, h2, h3, h4, h5, h6⟩ := h
  exact ⟨⟨_, _, grow_again _ _ _ _ _⟩, cell_grow h1 _ _, cell_grow h2 _ _, cell_grow h3 _ _, cell_grow h4 _ _, cell_grow h5 _ _, cell_grow h6 _ _⟩
theorem kA {W0 w : World} {b d : Nat} {c0 c1 c2 d0 d1 d2 : Value} (h : (∃ q os, w = grow (W0.drewN q) os) ∧ w.cell? ⟨b, 0, none⟩ = some c0 ∧ w.cell? ⟨b, 1, none⟩ = some c1 ∧ w.cell? ⟨b, 2, none⟩ = some c2 ∧ w.cell? ⟨d, 0, none⟩ = some d0 ∧ w.cell? ⟨d, 1, none⟩ = some d1 ∧ w.cell? ⟨d, 2, none⟩ = some d2) (o : Obj) :
    (∃ q' os', w.alloc o = grow (W0.drewN q') os') ∧ (w.alloc o).cell? ⟨b, 0, none⟩ = some c0 ∧ (w.alloc o).cell? ⟨b, 1, none⟩ = some c1 ∧ (w.alloc o).cell? ⟨b, 2, none⟩ = some c2 ∧ (w.alloc o).cell? ⟨d, 0, none⟩ = some d0 ∧ (w.alloc o).cell? ⟨d, 1, none⟩ = some d1 ∧ (w.alloc o).cell? ⟨d, 2, none⟩ = some d2 := by
  rw [alloc_eq_grow]
  exact kG h 0 #[o]
theorem kD {W0 w : World} {b d : Nat} {c0 c1 c2 d0 d1 d2 : Value} (h : (∃ q os, w = grow (W0.drewN q) os) ∧ w.cell? ⟨b, 0, none⟩ = some c0 ∧ w.cell? ⟨b, 1, none⟩ = some c1 ∧ w.cell? ⟨b, 2, none⟩ = some c2 ∧ w.cell? ⟨d, 0, none⟩ = some d0 ∧ w.cell? ⟨d, 1, none⟩ = some d1 ∧ w.cell? ⟨d, 2, none⟩ = some d2) :
    (∃ q' os', w.drew = grow (W0.drewN q') os') ∧ w.drew.cell? ⟨b, 0, none⟩ = some c0 ∧ w.drew.cell? ⟨b, 1, none⟩ = some c1 ∧ w.drew.cell? ⟨b, 2, none⟩ = some c2 ∧ w.drew.cell? ⟨d, 0, none⟩ = some d0 ∧ w.drew.cell? ⟨d, 1, none⟩ = some d1 ∧ w.drew.cell? ⟨d, 2, none⟩ = some d2 := by
  have := kG h 1 #[]
  rwa [grow_empty] at this

theorem cmpHur_calls (x y : RowT .hur) (W : World) : Calls Tryz.prog 42 #[.agg (encR .hur x).toArray, .agg (encR .hur y).toArray] W fun e w' => e = .returned (.int .i64 (cmpH x.1 y.1)) ∧ ∃ q os', w' = grow (W.drewN q) os' := by
  obtain ⟨x, hx, ox⟩ := x
  obtain ⟨y, hy, oy⟩ := y
  obtain ⟨x0, x1, x2, rfl⟩ := len3 hx
  obtain ⟨y0, y1, y2, rfl⟩ := len3 hy
  have hr : (-128 ≤ x0 ∧ x0 ≤ 127) ∧ (-128 ≤ x1 ∧ x1 ≤ 127) ∧ (-128 ≤ y0 ∧ y0 ≤ 127) ∧ (-128 ≤ y1 ∧ y1 ≤ 127) ∧ (x2 = 0 ∨ x2 = 1) ∧ (y2 = 0 ∨ y2 = 1) := by
    simp [cellsOk, Sg.flat, flats, CK.ok, rng, lo, hi] at ox oy
    omega
  show Calls Tryz.prog 42 #[.agg #[.int .i8 x0, .int .i8 x1, .bool (x2 != 0)], .agg #[.int .i8 y0, .int .i8 y1, .bool (y2 != 0)]] W _
  have hc := fun W => cmpSpot_calls ⟨[x0, x1], rfl, (by simp [cellsOk, Sg.flat, flats, CK.ok, rng, lo, hi]; omega)⟩ ⟨[y0, y1], rfl, (by simp [cellsOk, Sg.flat, flats, CK.ok, rng, lo, hi]; omega)⟩ W
  change ∀ W, Calls Tryz.prog 67 #[.agg #[.int .i8 x0, .int .i8 x1], .agg #[.int .i8 y0, .int .i8 y1]] W fun e w' => e = .returned (.int .i64 (cmpI [x0, x1] [y0, y1])) ∧ ∃ q os', w' = grow (W.drewN q) os' at hc
  have hb1 := bit_calls (x2 != 0)
  have hb2 := bit_calls (y2 != 0)
  have e1 : (if (x2 != 0) = true then (1 : Int) else 0) = x2 := by obtain ⟨-, -, -, -, h | h, -⟩ := hr <;> subst h <;> rfl
  have e2 : (if (y2 != 0) = true then (1 : Int) else 0) = y2 := by obtain ⟨-, -, -, -, -, h | h⟩ := hr <;> subst h <;> rfl
  rw [e1] at hb1
  rw [e2] at hb2
  have hm := cmp64_calls x2 y2
  have ho := fun g cap W => or_calls g cap (cmpI [x0, x1] [y0, y1]) (cmpB x2 y2) W
  show Calls _ _ _ _ fun e w' => e = .returned (.int .i64 (if cmpI [x0, x1] [y0, y1] ≠ 0 then cmpI [x0, x1] [y0, y1] else cmpB x2 y2)) ∧ _
  generalize (if cmpI [x0, x1] [y0, y1] ≠ 0 then cmpI [x0, x1] [y0, y1] else cmpB x2 y2) = r at *
  generalize cmpI [x0, x1] [y0, y1] = r1 at *
  generalize cmpB x2 y2 = r2 at *
  clear hx hy ox oy e1 e2 hr
  generalize (x2 != 0) = bx at *
  generalize (y2 != 0) = byy at *
  go_enter Tryz.func42, Tryz.ntmps42
  go_wp2_with fail
  have h0 : (∃ q os, ((W.alloc (Obj.cells #[Value.int IntKind.i8 x0, Value.int IntKind.i8 x1, Value.bool bx] 62)).alloc (Obj.cells #[Value.int IntKind.i8 y0, Value.int IntKind.i8 y1, Value.bool byy] 62)) = grow (W.drewN q) os) ∧ ((W.alloc (Obj.cells #[Value.int IntKind.i8 x0, Value.int IntKind.i8 x1, Value.bool bx] 62)).alloc (Obj.cells #[Value.int IntKind.i8 y0, Value.int IntKind.i8 y1, Value.bool byy] 62)).cell? ⟨W.heap.size, 0, none⟩ = some (.int .i8 x0) ∧ ((W.alloc (Obj.cells #[Value.int IntKind.i8 x0, Value.int IntKind.i8 x1, Value.bool bx] 62)).alloc (Obj.cells #[Value.int IntKind.i8 y0, Value.int IntKind.i8 y1, Value.bool byy] 62)).cell? ⟨W.heap.size, 1, none⟩ = some (.int .i8 x1) ∧ ((W.alloc (Obj.cells #[Value.int IntKind.i8 x0, Value.int IntKind.i8 x1, Value.bool bx] 62)).alloc (Obj.cells #[Value.int IntKind.i8 y0, Value.int IntKind.i8 y1, Value.bool byy] 62)).cell? ⟨W.heap.size, 2, none⟩ = some (.bool bx) ∧ ((W.alloc (Obj.cells #[Value.int IntKind.i8 x0, Value.int IntKind.i8 x1, Value.bool bx] 62)).alloc (Obj.cells #[Value.int IntKind.i8 y0, Value.int IntKind.i8 y1, Value.bool byy] 62)).cell? ⟨W.heap.size + 1, 0, none⟩ = some (.int .i8 y0) ∧ ((W.alloc (Obj.cells #[Value.int IntKind.i8 x0, Value.int IntKind.i8 x1, Value.bool bx] 62)).alloc (Obj.cells #[Value.int IntKind.i8 y0, Value.int IntKind.i8 y1, Value.bool byy] 62)).cell? ⟨W.heap.size + 1, 1, none⟩ = some (.int .i8 y1) ∧ ((W.alloc (Obj.cells #[Value.int IntKind.i8 x0, Value.int IntKind.i8 x1, Value.bool bx] 62)).alloc (Obj.cells #[Value.int IntKind.i8 y0, Value.int IntKind.i8 y1, Value.bool byy] 62)).cell? ⟨W.heap.size + 1, 2, none⟩ = some (.bool byy) := by
    refine ⟨⟨0, _, by rw [alloc_eq_grow, alloc_eq_grow, grow_grow]; rfl⟩, cell_old _ _ _ _ _ (cell_new _ _ _ _ _ rfl), cell_old _ _ _ _ _ (cell_new _ _ _ _ _ rfl), cell_old _ _ _ _ _ (cell_new _ _ _ _ _ rfl), cell_new _ _ _ _ _ (by show _ = (W.heap.push _).size; rw [Array.size_push]), cell_new _ _ _ _ _ (by show _ = (W.heap.push _).size; rw [Array.size_push]), cell_new _ _ _ _ _ (by show _ = (W.heap.push _).size; rw [Array.size_push])⟩
  generalize ((W.alloc (Obj.cells #[Value.int IntKind.i8 x0, Value.int IntKind.i8 x1, Value.bool bx] 62)).alloc (Obj.cells #[Value.int IntKind.i8 y0, Value.int IntKind.i8 y1, Value.bool byy] 62)) = W1 at *
  have hs := kD h0
  go_region_held3 (fun w' => (∃ q os, w' = grow (W.drewN q) os) ∧ w'.cell? ⟨W.heap.size, 0, none⟩ = some (.int .i8 x0) ∧ w'.cell? ⟨W.heap.size, 1, none⟩ = some (.int .i8 x1) ∧ w'.cell? ⟨W.heap.size, 2, none⟩ = some (.bool bx) ∧ w'.cell? ⟨W.heap.size + 1, 0, none⟩ = some (.int .i8 y0) ∧ w'.cell? ⟨W.heap.size + 1, 1, none⟩ = some (.int .i8 y1) ∧ w'.cell? ⟨W.heap.size + 1, 2, none⟩ = some (.bool byy))
    (first | exact hs | assumption | exact kG (by assumption) _ _ | exact kA (by assumption) _ | go_keep)
    (first | (go_at_call 67; refine (hc _).mono ?_; rintro e w' ⟨rfl, q, os, rfl⟩) | (go_at_call 69; refine (hb1 _).mono ?_; rintro e w' ⟨rfl, rfl⟩) | (go_at_call 69; refine (hb2 _).mono ?_; rintro e w' ⟨rfl, rfl⟩) | (go_at_call 68; refine (hm _).mono ?_; rintro e w' ⟨rfl, rfl⟩) | (go_at_call 66; refine (ho _ _ _ (cell_new _ _ _ _ _ (by simp [grow, World.drewN])) (cell_new _ _ _ _ _ (by simp [grow, World.drewN]))).mono ?_; rintro e w' ⟨rfl, rfl⟩))
  all_goals (go_wp2; go_ret; obtain ⟨⟨q1, os1, rfl⟩, -⟩ := h0; exact ⟨rfl, _, _, by rw [alloc_eq_grow, grow_again, grow_grow]⟩)

/-! The order of hurdles. -/
def lessH (a b : List Int) : Bool := decide (a.getD 1 0 < b.getD 1 0 ∨ (a.getD 1 0 = b.getD 1 0 ∧ (a.getD 0 0 < b.getD 0 0 ∨ (a.getD 0 0 = b.getD 0 0 ∧ a.getD 2 0 < b.getD 2 0))))
theorem cmpH_less (a b : List Int) : cmpH a b < 0 ↔ lessH a b = true := by
  unfold cmpH lessH cmpI cmpB
  simp only [List.getD_cons_zero, List.getD_cons_succ]
  rw [decide_eq_true_eq]
  (repeat' split) <;> omega
theorem ltHur (x y : RowT .hur) : ltOf (fun x y : RowT .hur => cmpH x.1 y.1) x y = lessH x.1 y.1 := by
  unfold ltOf
  cases h : lessH x.1 y.1 with
  | true => exact decide_eq_true ((cmpH_less _ _).2 h)
  | false => exact decide_eq_false fun g => by rw [(cmpH_less _ _).1 g] at h; cases h
theorem lessH_iff (a b : List Int) : lessH a b = true ↔ (a.getD 1 0 < b.getD 1 0 ∨ (a.getD 1 0 = b.getD 1 0 ∧ (a.getD 0 0 < b.getD 0 0 ∨ (a.getD 0 0 = b.getD 0 0 ∧ a.getD 2 0 < b.getD 2 0)))) := by
  unfold lessH; rw [decide_eq_true_eq]
theorem lessH_not (a b : List Int) : lessH a b = false ↔ ¬ (a.getD 1 0 < b.getD 1 0 ∨ (a.getD 1 0 = b.getD 1 0 ∧ (a.getD 0 0 < b.getD 0 0 ∨ (a.getD 0 0 = b.getD 0 0 ∧ a.getD 2 0 < b.getD 2 0)))) := by
  unfold lessH; rw [decide_eq_false_iff_not]
theorem swoHur : SWO (ltOf fun x y : RowT .hur => cmpH x.1 y.1) where
  irrefl x := by rw [ltHur, lessH_not]; omega
  trans x y z h1 h2 := by rw [ltHur, lessH_iff] at *; omega
  ntrans x y z h1 h2 := by rw [ltHur, lessH_not] at *; omega
theorem totHur (x y : RowT .hur) (h1 : ltOf (fun x y : RowT .hur => cmpH x.1 y.1) x y = false) (h2 : ltOf (fun x y : RowT .hur => cmpH x.1 y.1) y x = false) : x = y := by
  rw [ltHur, lessH_not] at h1 h2
  obtain ⟨x, hx, ox⟩ := x
  obtain ⟨y, hy, oy⟩ := y
  obtain ⟨x0, x1, x2, rfl⟩ := len3 hx
  obtain ⟨y0, y1, y2, rfl⟩ := len3 hy
  simp only [List.getD_cons_zero, List.getD_cons_succ] at h1 h2
  have e1 : x0 = y0 := by omega
  have e2 : x1 = y1 := by omega
  have e3 : x2 = y2 := by omega
  subst e1; subst e2; subst e3; rfl
theorem s_sortHur : Sound Tryz.prog 41 (sortS .hur 62 42 cmpH) := by
  refine sort_sound rfl (by decide) fun blk cap d w hH hb hs => ?_
  have eg : ∀ args w, (callFunc 42 args).run Tryz.prog w = .ok (.enter 42 args) w := enters_of Tryz.func42 (by kernel_rfl) rfl
  exact AnyQ.slices_SortFunc_total Tryz.sortHur 3 (fun w => Tryz.isAgg62 w) (fun w => Tryz.sizeOf62 w) (encR .hur) (encR_len rfl) (fun x v hv => cellsV_one _ _ v hv) (fun x y => cmpH x.1 y.1) swoHur 42 #[] blk 0 cap d w eg
    (fun m os dk _ x y => cmpHur_calls x y _) hH hb hs totHur
end Go.Proofs.YtjbgjgkogmlpfaaGreat
