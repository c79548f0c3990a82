/- The row PlainPasture: the spec and the program make the same plain pasture. -/
import Derived.Test.YtpdghhmpbakckaaSpots
import Derived.Test.YtpdghhmpbakckaaEqs
namespace Go.Proofs.Ytpdghhmpbakckaa
open Go Go.Eng
set_option maxRecDepth 100000
set_option maxHeartbeats 4000000

def plainOk (w h g : Int) : Prop := (1 ≤ w ∧ w ≤ 10) ∧ (1 ≤ h ∧ h ≤ 10) ∧ 0 ≤ g ∧ g ≤ 1000
instance (w h g : Int) : Decidable (plainOk w h g) := by unfold plainOk; infer_instance

/-- The cells of a row filled, one after the other; then the rows. -/
def fillR (g : Int) (p : List Int) (y : Nat) : Nat → List Int
  | 0 => p
  | x + 1 => (fillR g p y x).set (2 + y * 10 + x) g
def fillA (g : Int) (w : Nat) (p : List Int) : Nat → List Int
  | 0 => p
  | y + 1 => fillR g (fillA g w p y) y w
/-- The cells of a list filled. -/
def fillN (g : Int) (p : List Int) (rows : List (List Int)) : Nat → List Int
  | 0 => p
  | i + 1 => (fillN g p rows i).set (2 + ((rows.getD i []).getD 1 0).toNat * 10 + ((rows.getD i []).getD 0 0).toNat) g

theorem getD_appL {α : Type} (l r : List α) (d : α) {i : Nat} (h : i < l.length) : (l ++ r).getD i d = l.getD i d := by
  rw [List.getD_eq_getElem?_getD, List.getElem?_append_left h, ← List.getD_eq_getElem?_getD]
theorem getD_appE {α : Type} (l : List α) (s d : α) : (l ++ [s]).getD l.length d = s := by
  rw [List.getD_eq_getElem?_getD, List.getElem?_append_right (Nat.le_refl _), Nat.sub_self]; rfl

theorem fillN_app (g : Int) (p : List Int) (l r : List (List Int)) : ∀ i, i ≤ l.length → fillN g p (l ++ r) i = fillN g p l i := by
  intro i
  induction i with
  | zero => intro _; rfl
  | succ i ih =>
    intro h
    simp only [fillN]
    rw [ih (by omega), getD_appL _ _ _ (by omega)]

theorem fill_rowA (g : Int) (p : List Int) (acc : List (List Int)) (y x : Nat) : fillN g p (rowA acc y x) (rowA acc y x).length = fillR g (fillN g p acc acc.length) y x := by
  induction x with
  | zero => rfl
  | succ x ih =>
    simp only [rowA, fillR, List.length_append, List.length_cons, List.length_nil, fillN, Nat.zero_add]
    rw [fillN_app _ _ _ _ _ (Nat.le_refl _), ih, getD_appE]
    simp

theorem fill_spots (g : Int) (p : List Int) (w : Nat) : ∀ y, fillN g p (spotsY w y) (spotsY w y).length = fillA g w p y := by
  intro y
  induction y with
  | zero => rfl
  | succ y ih => rw [spotsY, fill_rowA, ih, fillA]

def plain0 (w h : Int) : List Int := ((List.replicate 122 0).set 0 w).set 1 h
def plainP (w h g : Int) : List Int := fillA g w.toNat (plain0 w h) h.toNat

def plainS : Fun
  | [.i .i64 w, .i .i64 h, .i .i64 g], [] => some (.t2 (.ag .pas (if plainOk w h g then plainP w h g else List.replicate 122 0)) (.i .i64 (if plainOk w h g then 0 else 2)), [], [])
  | _, _ => .none

set_option maxRecDepth 100000 in
theorem s_specPlain : Sound Try.prog 29 plainS := by
  intro args M r M' vs h hvs
  unfold plainS at h
  split at h
  case h_2 => cases h
  rename_i w h g
  cases h
  refine SpecOK.assume fun hA hM => ?_
  have htb := (TbOk.cons s_l00In Try.func54 rfl rfl (TbOk.cons s_l01Grass Try.func58 rfl rfl (TbOk.nil : TbOk Try.prog tb0)))
  refine SpecOK.of_goes [] Try.func29 rfl ?_
  have hno : ¬ plainOk w h g → sameA ((AV.ag Sg.pas (if plainOk w h g then plainP w h g else List.replicate 122 0)).t2 (AV.i .i64 (if plainOk w h g then 0 else 2))) ((AV.ag Sg.pas (List.replicate 122 0)).t2 (AV.i IntKind.i64 2)) := by
    intro h; rw [if_neg h, if_neg h]; exact sameA_refl _
  refine Goes.tree Γ_ok htb 1000 false false Try.func29 rfl ?_
  ((try simp only [decide_eq_true_eq, decide_eq_false_iff_not, Bool.not_eq_true', Bool.not_eq_false', Bool.not_true, Bool.not_false, Bool.and_eq_true, Bool.or_eq_true, bne_iff_ne, beq_iff_eq, ne_eq]); (try simp only [rng, lo, hi, mnI, mxI, Int.toNat_natCast, Sg.n, Nat.mul_one, Nat.zero_add, Nat.add_zero, Nat.reduceAdd, List.getD_cons_zero, List.getD_cons_succ]))
  ((repeat' (first | (with_reducible apply And.intro) | intro _)); all_goals (first | exact trivial | (with_reducible assumption) | (show (_ : List Blk) = _; rfl) | (first | exact trivial | (with_reducible assumption) | omega | (split <;> omega) | (split <;> split <;> omega)) | skip); all_goals (try (refine ⟨rfl, (by first | exact Nat.le_refl _ | exact Nat.le_of_ble_eq_true rfl), rfl, rfl, ?_, (by repeat' (first | exact trivial | rfl | apply And.intro)), rfl, rfl⟩)))
  · exact hno fun h => by unfold plainOk at h; omega
  · exact hno fun h => by unfold plainOk at h; omega
  · exact hno fun h => by unfold plainOk at h; omega
  · rename_i h1 h2 h3
    have hok : plainOk w h g := ⟨h1, h2, h3⟩
    refine ⟨?_⟩
    refine Goes.loop0 (fun y : Nat => h.toNat - y) (fun y => y ≤ h.toNat) (fun y => (.i .i64 w :: .i .i64 h :: .i .i64 g :: .any :: .any :: .any :: .pw 0 .pas :: .any :: .pw 1 .pas :: .i .i64 (y:Int) :: .any :: .any :: .any :: .any :: .any :: .any :: .any :: .any :: .any :: .any :: .any :: .any :: .any :: .any :: .any :: .any :: .any :: .any :: .any :: .any :: .any :: .any :: .any :: .any :: .any :: .any :: .any :: .any :: .any :: .any :: .any :: .any :: .any :: .any :: .any :: .any :: .any :: .any :: [])) (fun y => [.c .pas (List.replicate 122 0), .c .pas (fillA g w.toNat (plain0 w h) y)]) 0 (by omega) (by repeat' (first | exact trivial | rfl | apply And.intro)) (by repeat' (first | exact trivial | rfl | apply And.intro)) fun y hy ihO => ?_
    refine Goes.tree Γ_ok htb 1000 false false Try.func29 rfl ?_
    ((try simp only [decide_eq_true_eq, decide_eq_false_iff_not, Bool.not_eq_true', Bool.not_eq_false', Bool.not_true, Bool.not_false, Bool.and_eq_true, Bool.or_eq_true, bne_iff_ne, beq_iff_eq, ne_eq]); (try simp only [rng, lo, hi, mnI, mxI, Int.toNat_natCast, Sg.n, Nat.mul_one, Nat.zero_add, Nat.add_zero, Nat.reduceAdd, List.getD_cons_zero, List.getD_cons_succ]))
    ((repeat' (first | (with_reducible apply And.intro) | intro _)); all_goals (first | exact trivial | (with_reducible assumption) | (show (_ : List Blk) = _; rfl) | (first | exact trivial | (with_reducible assumption) | omega | (split <;> omega) | (split <;> split <;> omega)) | skip); all_goals (try (refine ⟨rfl, (by first | exact Nat.le_refl _ | exact Nat.le_of_ble_eq_true rfl), rfl, rfl, ?_, (by repeat' (first | exact trivial | rfl | apply And.intro)), rfl, rfl⟩)))
    · refine ⟨?_⟩
      refine Goes.loop0 (fun x : Nat => w.toNat - x) (fun x => x ≤ w.toNat) (fun x => (.i .i64 w :: .i .i64 h :: .i .i64 g :: .any :: .any :: .any :: .pw 0 .pas :: .any :: .pw 1 .pas :: .i .i64 (y:Int) :: .i .i64 (x:Int) :: .any :: .any :: .any :: .any :: .any :: .any :: .any :: .any :: .any :: .any :: .any :: .any :: .any :: .any :: .any :: .any :: .any :: .any :: .any :: .any :: .any :: .any :: .any :: .any :: .any :: .any :: .any :: .any :: .any :: .any :: .any :: .any :: .any :: .any :: .any :: .any :: .any :: [])) (fun x => [.c .pas (List.replicate 122 0), .c .pas (fillR g (fillA g w.toNat (plain0 w h) y) y x)]) 0 (by omega) (by repeat' (first | exact trivial | rfl | apply And.intro)) (by repeat' (first | exact trivial | rfl | apply And.intro)) fun x hx ih => ?_
      refine Goes.tree Γ_ok htb 1000 false false Try.func29 rfl ?_
      ((try simp only [decide_eq_true_eq, decide_eq_false_iff_not, Bool.not_eq_true', Bool.not_eq_false', Bool.not_true, Bool.not_false, Bool.and_eq_true, Bool.or_eq_true, bne_iff_ne, beq_iff_eq, ne_eq]); (try simp only [rng, lo, hi, mnI, mxI, Int.toNat_natCast, Sg.n, Nat.mul_one, Nat.zero_add, Nat.add_zero, Nat.reduceAdd, List.getD_cons_zero, List.getD_cons_succ]))
      ((repeat' (first | (with_reducible apply And.intro) | intro _)); all_goals (first | exact trivial | (with_reducible assumption) | (show (_ : List Blk) = _; rfl) | (first | exact trivial | (with_reducible assumption) | omega | (split <;> omega) | (split <;> split <;> omega)) | skip); all_goals (try (refine ⟨rfl, (by first | exact Nat.le_refl _ | exact Nat.le_of_ble_eq_true rfl), rfl, rfl, ?_, (by repeat' (first | exact trivial | rfl | apply And.intro)), rfl, rfl⟩)))
      · exact ⟨ih (x + 1) (by omega) (by omega) _ _ (by repeat' (first | exact trivial | rfl | apply And.intro)) (by repeat' (first | exact trivial | rfl | apply And.intro))⟩
      · obtain rfl : x = w.toNat := by omega
        exact ⟨ihO (y + 1) (by omega) (by omega) _ _ (by repeat' (first | exact trivial | rfl | apply And.intro)) (by repeat' (first | exact trivial | rfl | apply And.intro))⟩
    · obtain rfl : y = h.toNat := by omega
      rw [if_pos hok, if_pos hok]
      exact sameA_refl _

set_option maxRecDepth 100000 in
theorem s_implPlain : Sound Try.prog 30 plainS := by
  intro args M r M' vs h hvs
  unfold plainS at h
  split at h
  case h_2 => cases h
  rename_i w h g
  cases h
  refine SpecOK.assume fun hA hM => ?_
  have htb := (TbOk.cons s_within Try.func53 rfl rfl (TbOk.cons s_all Try.func61 rfl rfl (TbOk.nil : TbOk Try.prog tb0)))
  refine SpecOK.of_goes [] Try.func30 rfl ?_
  have hno : ¬ plainOk w h g → sameA ((AV.ag Sg.pas (if plainOk w h g then plainP w h g else List.replicate 122 0)).t2 (AV.i .i64 (if plainOk w h g then 0 else 2))) ((AV.ag Sg.pas (List.replicate 122 0)).t2 (AV.i IntKind.i64 2)) := by
    intro h; rw [if_neg h, if_neg h]; exact sameA_refl _
  refine Goes.tree Γ_ok htb 1000 false false Try.func30 rfl ?_
  ((try simp only [decide_eq_true_eq, decide_eq_false_iff_not, Bool.not_eq_true', Bool.not_eq_false', Bool.not_true, Bool.not_false, Bool.and_eq_true, Bool.or_eq_true, bne_iff_ne, beq_iff_eq, ne_eq]); (try simp only [rng, lo, hi, mnI, mxI, Int.toNat_natCast, Sg.n, Nat.mul_one, Nat.zero_add, Nat.add_zero, Nat.reduceAdd, List.getD_cons_zero, List.getD_cons_succ]))
  ((repeat' (first | (with_reducible apply And.intro) | intro _)); all_goals (first | exact trivial | (with_reducible assumption) | (show (_ : List Blk) = _; rfl) | (first | exact trivial | (with_reducible assumption) | omega | (split <;> omega) | (split <;> split <;> omega)) | skip); all_goals (try (refine ⟨rfl, (by first | exact Nat.le_refl _ | exact Nat.le_of_ble_eq_true rfl), rfl, rfl, ?_, (by repeat' (first | exact trivial | rfl | apply And.intro)), rfl, rfl⟩)))
  · exact hno fun h => by unfold plainOk at h; omega
  · exact hno fun h => by unfold plainOk at h; omega
  · exact hno fun h => by unfold plainOk at h; omega
  · rename_i h1 h2 h3
    have hok : plainOk w h g := ⟨h1, h2, h3⟩
    have hsp : okD (plain0 w h) := ⟨h1.1, h1.2, h2.1, h2.2⟩
    obtain ⟨hl, hin⟩ := spots_ok hsp
    have hend := fill_spots g (plain0 w h) w.toNat h.toNat
    refine ⟨?_⟩
    refine Goes.loopR (fun i : Nat => (spots (plain0 w h)).length - i) (fun i => i ≤ (spots (plain0 w h)).length) (fun i => (.any :: .any :: .i .i64 g :: .any :: .any :: .any :: .pw 0 .pas :: .any :: .pw 1 .pas :: .any :: .any :: .any :: .any :: .any :: .any :: .any :: .any :: .any :: .any :: .any :: .any :: .any :: .any :: .any :: .any :: .any :: .any :: .any :: .any :: .any :: .any :: .fs .spot (spots (plain0 w h)) :: .i .i64 ((spots (plain0 w h)).length:Int) :: .i .i64 (i:Int) :: .any :: .any :: .any :: .any :: .any :: .any :: .any :: .any :: .any :: .any :: .any :: .any :: .any :: .any :: [])) (fun i => [.c .pas (List.replicate 122 0), .c .pas (fillN g (plain0 w h) (spots (plain0 w h)) i)]) 0 [0, 1] (by omega) ⟨rfl, rfl, rfl, (by repeat' (first | exact trivial | rfl | apply And.intro)), (by repeat' (first | exact trivial | rfl | apply And.intro)), rfl, rfl, rfl⟩ fun i hle ih => ?_
    have h3' : i < (spots (plain0 w h)).length → inG ((spots (plain0 w h)).getD i []) := fun h => hin _ (by rw [List.getD_eq_getElem?_getD, List.getElem?_eq_getElem h]; exact List.getElem_mem _)
    unfold inG at h3'
    refine Goes.tree Γ_ok htb 1000 false false Try.func30 rfl ?_
    ((try simp only [decide_eq_true_eq, decide_eq_false_iff_not, Bool.not_eq_true', Bool.not_eq_false', Bool.not_true, Bool.not_false, Bool.and_eq_true, Bool.or_eq_true, bne_iff_ne, beq_iff_eq, ne_eq]); (try simp only [rng, lo, hi, mnI, mxI, Int.toNat_natCast, Sg.n, Nat.mul_one, Nat.zero_add, Nat.add_zero, Nat.reduceAdd, List.getD_cons_zero, List.getD_cons_succ]))
    ((repeat' (first | (with_reducible apply And.intro) | intro _)); all_goals (first | exact trivial | (with_reducible assumption) | (show (_ : List Blk) = _; rfl) | (first | exact trivial | (with_reducible assumption) | omega | (split <;> omega) | (split <;> split <;> omega)) | skip); all_goals (try (refine ⟨rfl, (by first | exact Nat.le_refl _ | exact Nat.le_of_ble_eq_true rfl), rfl, rfl, ?_, (by repeat' (first | exact trivial | rfl | apply And.intro)), rfl, rfl⟩)))
    · exact ⟨ih (i + 1) (by omega) (by omega) [0, 1] _ _ ⟨rfl, rfl, rfl, (by repeat' (first | exact trivial | rfl | apply And.intro)), (by repeat' (first | exact trivial | rfl | apply And.intro)), rfl, rfl, rfl⟩⟩
    · obtain rfl : i = (spots (plain0 w h)).length := by omega
      rw [if_pos hok, if_pos hok]
      have e : fillN g (plain0 w h) (spots (plain0 w h)) (spots (plain0 w h)).length = plainP w h g := hend
      rw [e]
      exact sameA_refl _
set_option maxRecDepth 100000 in
theorem l_ExactPlainPasture (x0 : Int) (x1 : Int) (x2 : Int) : SpecOK Try.prog 8 [.i .i64 x0, .i .i64 x1, .i .i64 x2] [] (.d true) [] := by
  have htb := (TbOk.cons s_specPlain Try.func29 rfl rfl (TbOk.cons s_implPlain Try.func30 rfl rfl (TbOk.cons s_eqPasture Try.func31 rfl rfl (TbOk.nil : TbOk Try.prog tb0))))
  refine SpecOK.of_goes [] Try.func8 rfl ?_
  refine Goes.tree Γ_ok htb 1000 false false Try.func8 rfl ?_
  (repeat' (first | (with_reducible apply And.intro) | intro _))
  all_goals (first | exact trivial | ((refine ⟨rfl, (by first | exact Nat.le_refl _ | exact Nat.le_of_ble_eq_true rfl), rfl, rfl, ?_, (by repeat' (first | exact trivial | rfl | apply And.intro)), rfl, rfl⟩); first | exact sameA_refl _ | (exfalso; simp_all)) | (simp_all))
end Go.Proofs.Ytpdghhmpbakckaa
namespace Go.Proofs.Ytpdghhmpbakckaa.fnExactPlainPasture
open Go Go.Eng Go.ChangeShapes Go.WideShapes Go.ChangeAt Go.RowKit
theorem own : ownKnob Try.prog.godebug = none := by kernel_rfl
theorem laidOut : laidOutB Try.prog = true := by kernel_rfl
set_option maxRecDepth 100000 in
theorem lifted (os : Os) (started : os.Started) (H : Type) (enc : TypeId × Value → H) :
    ReturnsInHanded {} Try.checked os 8 .any (Rows.fnExactPlainPastureSpec.pre6 enc Try.prog Try.f8 Rows.fnExactPlainPastureRow.domain false) (Rows.fnExactPlainPastureSpec.post enc Try.prog Try.f8 false true false false) := by
  refine returnsInHanded_of_change_sized (C := Try.checked) own started (by kernel_rfl) Try.func8
    (ChangeSpec.witness6 (enc := enc) (C := Try.checked) false ⟨#[], #[.int .i64 0, .int .i64 0, .int .i64 0], []⟩ 8 (by kernel_rfl) (by kernel_rfl) (by kernel_rfl) (by kernel_rfl)) ?_
  intro W base args ds gs before hval0 hW hcnd hsz0 _
  have hval : ∀ (j : Nat) t v, Try.f8.params[j]? = some t → args[j]? = some v → Value.okWide Try.prog W .any base t v := hval0
  have hW' := hW
  obtain ⟨p, q, hA0, hV, rfl, hfz, hnd⟩ := hW
  have hA : DataW.TrodAll enc Try.prog W 0 (fun _ => true) true Try.f8.params.toList args.toList ds p := hA0
  rw [Try.params8] at hA hval
  obtain ⟨v0, vs0, d0, ds0, p0, q0, hargs, rfl, rfl, h0, r0⟩ := trodAll_cons hA
  obtain ⟨v1, vs1, d1, ds1, p1, q1, rfl, rfl, rfl, h1, r1⟩ := trodAll_cons r0
  obtain ⟨v2, vs2, d2, ds2, p2, q2, rfl, rfl, rfl, h2, r2⟩ := trodAll_cons r1
  obtain ⟨rfl, rfl, rfl⟩ := trodAll_nil r2
  obtain rfl : args = #[v0, v1, v2] := by cases args; simp_all
  obtain ⟨rfl, rfl⟩ := trodVars_none hV
  obtain ⟨x0, e0, _, z0, w0⟩ := open_int Try.underlying2 (hval 0 _ v0 rfl rfl) h0
  obtain ⟨x1, e1, _, z1, w1⟩ := open_int Try.underlying2 (hval 1 _ v1 rfl rfl) h1
  obtain ⟨x2, e2, _, z2, w2⟩ := open_int Try.underlying2 (hval 2 _ v2 rfl rfl) h2
  subst z0 z1 z2
  clear hA0 hval0 hsz0
  refine (l_ExactPlainPasture x0 x1 x2 ⟨fun _ => ⟨0, 0, 0, .none, 0⟩, fun k => W.heap[k]?⟩ [v0, v1, v2] W ⟨⟨e0, rng_wf w0⟩, ⟨e1, rng_wf w1⟩, ⟨e2, rng_wf w2⟩, trivial⟩ (mrel_nil fun _ _ h => h) (fun x hx i hi => (by simp at hx; rcases hx with rfl | rfl | rfl <;> cases hi))).mono fun e W' ⟨v, ρ', he, hv, hAft, _⟩ => ?_
  subst he
  obtain rfl : v = .bool true := hv
  have bel := hAft.below
  have t0 := Below.trod laidOut (by kernel_rfl) (by decide +kernel) h0 bel (fun x hx => (by cases hx))
  have t1 := Below.trod laidOut (by kernel_rfl) (by decide +kernel) h1 bel (fun x hx => (by cases hx))
  have t2 := Below.trod laidOut (by kernel_rfl) (by decide +kernel) h2 bel (fun x hx => (by cases hx))
  exact ⟨_, rfl, _, _, _, [], _, [], hW', trodAll_mk1 (shut_bool Try.underlying4 _), (trodAll_cons_mk t0 (trodAll_cons_mk t1 (trodAll_cons_mk t2 trodAll_mk0))), rfl, bel.frame _, fun h => (by cases h)⟩
theorem over : Rows.fnExactPlainPastureRow.holds Try.pinned (OpenSpec.ofChange Rows.fnExactPlainPastureSpec) :=
  OpenClaim.holds_of_wide 8 Try.f8 rfl rfl rfl rfl rfl rfl rfl ⟨rfl, rfl, rfl, rfl, rfl⟩ rfl rfl rfl rfl rfl (by kernel_rfl) Try.func8 (by kernel_rfl)
    (of_decide_eq_true (by kernel_rfl)) (by unfold Func.isWrapper; first | (rw [if_pos (by decide +kernel)]; kernel_rfl) | (rw [if_neg (by decide +kernel)]; exact ⟨rfl, rfl⟩))
    (fun os started H enc _ => lifted os started H enc)
end Go.Proofs.Ytpdghhmpbakckaa.fnExactPlainPasture
namespace Go.Proofs.Ytpdghhmpbakckaa
theorem fnExactPlainPasture_holds : Rows.FnExactPlainPastureSaid := fnExactPlainPasture.over
#print axioms fnExactPlainPasture_holds
end Go.Proofs.Ytpdghhmpbakckaa

