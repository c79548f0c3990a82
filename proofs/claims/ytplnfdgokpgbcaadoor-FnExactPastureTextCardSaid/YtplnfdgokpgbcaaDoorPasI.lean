/- The text of a pasture: the spec's function and the program. -/
import Derived.Test.YtplnfdgokpgbcaaDoorPasT
import Derived.Test.YtplnfdgokpgbcaaDoorGoI
namespace Go.Proofs.YtplnfdgokpgbcaaDoor
open Go Go.Eng
set_option linter.unusedSimpArgs false
set_option linter.unusedVariables false
set_option maxRecDepth 100000
set_option maxHeartbeats 4000000

theorem okP_gr {p : List Int} (h : okP p) : grOk p := by
  intro y x hy hx
  have := (h.2 y hy).1 x hx
  unfold okC at this
  rw [Nat.mul_one] at this
  exact ⟨this.1, this.2.1⟩
def ptxT (p : List Int) : ByteArray := if okP p then texT p (p.getD 0 0).toNat (p.getD 1 0).toNat else ⟨#[]⟩
def ptxS : Fun
  | [.ag .pas p], [] => some (.s (ptxT p), [], [])
  | _, _ => .none
set_option maxRecDepth 100000 in
theorem s_specPasture : Sound Tryd.prog 22 ptxS := by
  intro args M r M' vs h hvs
  unfold ptxS at h
  split at h
  case h_2 => cases h
  rename_i p
  cases h
  refine SpecOK.assume fun hA hM => ?_
  have htb := (TbOk.cons s_l01Ok Tryd.func57 rfl rfl (TbOk.cons s_l01Text Tryd.func58 rfl rfl (TbOk.nil : TbOk Tryd.prog tb0)))
  refine SpecOK.of_goes [] Tryd.func22 rfl ?_
  clear hA hM
  refine Goes.tree Γ_ok htb 1000 false false Tryd.func22 rfl ?_
  ((try simp only [decide_eq_true_eq, decide_eq_false_iff_not, Bool.not_eq_true', Bool.not_eq_false', Bool.not_true, Bool.not_false, Bool.and_eq_true, Bool.or_eq_true, bne_iff_ne, beq_iff_eq, ne_eq]); (try simp only [rng, lo, hi, mnI, mxI, Int.toNat_natCast, Sg.n, Nat.mul_one, Nat.zero_add, Nat.add_zero, Nat.reduceAdd, List.getD_cons_zero, List.getD_cons_succ]))
  ((repeat' (first | (with_reducible apply And.intro) | intro _)); all_goals (first | exact trivial | (with_reducible assumption) | (show (_ : List Blk) = _; rfl) | (first | exact trivial | (with_reducible assumption) | omega | (split <;> omega) | (split <;> split <;> omega)) | skip); all_goals (try (refine ⟨rfl, (by first | exact Nat.le_refl _ | exact Nat.le_of_ble_eq_true rfl), rfl, rfl, ?_, (by repeat' (first | exact trivial | rfl | apply And.intro)), rfl, rfl⟩)))
  · rename_i h
    rw [show ptxT p = ⟨#[]⟩ from if_neg h]; exact sameA_refl _
  all_goals (have h : okP p := by assumption)
  all_goals first
    | (have := h.1; unfold okD at this; omega)
    | exact (okP_gr h _ _ (by assumption) (by assumption)).1
    | exact (okP_gr h _ _ (by assumption) (by assumption)).2
    | (rw [show ptxT p = texT p (p.getD 0 0).toNat (p.getD 1 0).toNat from if_pos h]; exact sameA_refl _)

/-! The program. -/
def stdP (p h : List Int) : Bool :=
  if h.getD 2 0 = 0 then bitAt (p.getD (102 + (h.getD 1 0).toNat) 0) (h.getD 0 0).toNat else bitAt (p.getD (112 + (h.getD 1 0).toNat) 0) (h.getD 0 0).toNat
def stdS : Fun
  | [.ag .pas p, .ag .hur h], [] => some (.b (stdP p h), [], [inG h])
  | _, _ => .none
set_option maxRecDepth 100000 in
theorem s_std : Sound Tryd.prog 63 stdS := by
  intro args M r M' vs h hvs
  unfold stdS at h
  split at h
  case h_2 => cases h
  rename_i p h
  cases h
  refine SpecOK.assume fun hA hM => ?_
  have htb := (TbOk.nil : TbOk Tryd.prog tb0)
  refine SpecOK.of_goes [] Tryd.func63 rfl ?_
  have hp : PasOk p := ⟨hA.1, hA.2.1⟩
  obtain ⟨a, b, c, rfl⟩ := len3 hA.2.2.1
  obtain ⟨hn, -⟩ := hvs
  simp only [inG, List.getD_cons_zero, List.getD_cons_succ] at hn
  have he := shr_rng (min a.toNat IntKind.u16.bits) (hp.e' (y := b.toNat) (by omega)).1 (hp.e' (y := b.toNat) (by omega)).2
  have hs := shr_rng (min a.toNat IntKind.u16.bits) (hp.s' (y := b.toNat) (by omega)).1 (hp.s' (y := b.toNat) (by omega)).2
  clear hA hM
  refine Goes.tree Γ_ok htb 1000 false false Tryd.func63 rfl ?_
  ((try simp only [decide_eq_true_eq, decide_eq_false_iff_not, Bool.not_eq_true', Bool.not_eq_false', Bool.not_true, Bool.not_false, Bool.and_eq_true, Bool.or_eq_true, bne_iff_ne, beq_iff_eq, ne_eq]); (try simp only [rng, lo, hi, mnI, mxI, Int.toNat_natCast, Sg.n, Nat.mul_one, Nat.zero_add, Nat.add_zero, Nat.reduceAdd, List.getD_cons_zero, List.getD_cons_succ]))
  ((repeat' (first | (with_reducible apply And.intro) | intro _)); all_goals (first | exact trivial | (with_reducible assumption) | (show (_ : List Blk) = _; rfl) | (first | exact trivial | (with_reducible assumption) | omega | (split <;> omega) | (split <;> split <;> omega)) | skip); all_goals (try (refine ⟨rfl, (by first | exact Nat.le_refl _ | exact Nat.le_of_ble_eq_true rfl), rfl, rfl, ?_, (by repeat' (first | exact trivial | rfl | apply And.intro)), rfl, rfl⟩)))
  · rename_i hc
    rw [show stdP p [a, b, c] = _ from if_neg hc]; exact sameA_refl _
  · rename_i hc
    have hc : c = 0 := by simpa using hc
    rw [show stdP p [a, b, c] = _ from if_pos hc]; exact sameA_refl _

def wrdP (p : List Int) (y x : Nat) : ByteArray := addB (bitAt (p.getD (112 + y) 0) x) 95 (addB (bitAt (p.getD (102 + y) 0) x) 124 (grT p x y))
theorem addB_app (b : Bool) (c : UInt8) (a t : ByteArray) : addB b c (a ++ t) = a ++ addB b c t := by
  unfold addB
  split
  · rw [ByteArray.append_assoc]
  · rfl
theorem rowT_tx (p : List Int) (y : Nat) (acc : ByteArray) : ∀ x, rowT p y acc x = acc ++ txF ⟨#[32]⟩ (wrdP p y) x := by
  intro x
  induction x with
  | zero => show acc = acc ++ ⟨#[]⟩; rw [ByteArray.ext_iff]; simp
  | succ x ih =>
    unfold rowT txF wrdP
    rw [ih, addB_app, addB_app]
    split
    · simp only [ByteArray.append_assoc]; rfl
    · simp only [ByteArray.append_assoc]; rfl
def linP (p : List Int) (y : Nat) : ByteArray := txF ⟨#[32]⟩ (wrdP p y) (p.getD 0 0).toNat ++ ⟨#[10]⟩
theorem texT_cat (p : List Int) : ∀ y, texT p (p.getD 0 0).toNat y = catT (linP p) y := by
  intro y
  induction y with
  | zero => rfl
  | succ y ih =>
    unfold texT catT linP
    rw [ih, rowT_tx, ByteArray.append_assoc]; rfl
theorem wrd_len {p : List Int} (h : grOk p) {x y : Nat} (hx : x < 10) (hy : y < 10) : (wrdP p y x).size ≤ 1003 := by
  have h2 := h y x hy hx
  have h3 := dig_len (p.getD (2 + y * 10 + x) 0).toNat
  unfold wrdP
  refine Nat.le_trans (addB_len _ _ _) (Nat.le_trans (Nat.succ_le_succ (addB_len _ _ _)) ?_)
  unfold grT
  omega
/-- Memory: the builder after y lines, behind the pasture. -/
def bldP (p : List Int) : Nat → List Blk
  | 0 => [.c .pas p, .r [.np, .nsl]]
  | y + 1 => [.c .pas p, .r [.rp 1 0 2 85, .ow 2 (bufK (linP p) (y + 1)).length .u8 5], .l .u8 (bufK (linP p) (y + 1))]
set_option maxRecDepth 100000 in
theorem s_implPasture : Sound Tryd.prog 24 ptxS := by
  intro args M r M' vs h hvs
  unfold ptxS at h
  split at h
  case h_2 => cases h
  rename_i p
  cases h
  refine SpecOK.assume fun hA hM => ?_
  have htb := (TbOk.cons s_ValidPasture Tryd.func61 rfl rfl (TbOk.cons s_grass Tryd.func62 rfl rfl (TbOk.cons s_decT Tryd.func37 rfl rfl (TbOk.cons s_std Tryd.func63 rfl rfl (TbOk.cons s_joinO Tryd.func38 rfl rfl (TbOk.cons s_wr Tryd.func47 rfl rfl (TbOk.cons s_str Tryd.func49 rfl rfl (TbOk.nil : TbOk Tryd.prog tb0))))))))
  refine SpecOK.of_goes [] Tryd.func24 rfl ?_
  have hp : PasOk p := ⟨hA.1, hA.2.1⟩
  clear hA hM
  refine Goes.tree Γ_ok htb 1000 false false Tryd.func24 rfl ?_
  ((try simp only [decide_eq_true_eq, decide_eq_false_iff_not, Bool.not_eq_true', Bool.not_eq_false', Bool.not_true, Bool.not_false, Bool.and_eq_true, Bool.or_eq_true, bne_iff_ne, beq_iff_eq, ne_eq]); (try simp only [rng, lo, hi, mnI, mxI, Int.toNat_natCast, Sg.n, Nat.mul_one, Nat.zero_add, Nat.add_zero, Nat.reduceAdd, List.getD_cons_zero, List.getD_cons_succ]))
  ((repeat' (first | (with_reducible apply And.intro) | intro _)); all_goals (first | exact trivial | (with_reducible assumption) | (show (_ : List Blk) = _; rfl) | (first | exact trivial | (with_reducible assumption) | omega | (split <;> omega) | (split <;> split <;> omega)) | skip); all_goals (try (refine ⟨rfl, (by first | exact Nat.le_refl _ | exact Nat.le_of_ble_eq_true rfl), rfl, rfl, ?_, (by repeat' (first | exact trivial | rfl | apply And.intro)), rfl, rfl⟩)))
  · rename_i h
    rw [show ptxT p = ⟨#[]⟩ from if_neg h]; exact sameA_refl _
  rename_i hok
  have hres : ptxT p = catT (linP p) (p.getD 1 0).toNat := by rw [← texT_cat]; exact if_pos hok
  have hd := hok.1
  unfold okD at hd
  have hg := okP_gr hok
  have hTl := texT_len hg (w := (p.getD 0 0).toNat) (by omega)
  refine ⟨?_⟩
  refine Goes.loopR (fun y : Nat => (p.getD 1 0).toNat - y) (fun y => y ≤ (p.getD 1 0).toNat) (fun y => (.any :: .pw 0 .pas :: .any :: .rp 1 0 2 85 :: .any :: .any :: .any :: .any :: .any :: .any :: .any :: .any :: .any :: .any :: .i .i8 (p.getD 1 0) :: .i .i8 (y:Int) :: .any :: .any :: .any :: .any :: .any :: .any :: .any :: .any :: .any :: .any :: .any :: .any :: .any :: .any :: .any :: .any :: .any :: .any :: .any :: .any :: .any :: .any :: .any :: .any :: .any :: .any :: .any :: .any :: .any :: .any :: .any :: .any :: .any :: .any :: .any :: .any :: .any :: .any :: [])) (fun y => bldP p y) 0 [0, 1] (Nat.zero_le _) ⟨rfl, rfl, rfl, (by repeat' (first | exact trivial | rfl | apply And.intro)), (by repeat' (first | exact trivial | rfl | apply And.intro)), rfl, rfl, rfl⟩ fun y hy ihO => ?_
  have hTy := hTl y (by omega)
  rw [texT_cat, ← buf_len] at hTy
  by_cases hlt : (y : Int) < p.getD 1 0
  · have ihs := ihO (y + 1) (by omega) (by omega)
    have eb : bufK (linP p) (y + 1) = bufK (linP p) y ++ strRows (linP p y) := rfl
    have eM : bldP p (y + 1) = [.c .pas p, .r [.rp 1 0 2 85, .ow 2 (bufK (linP p) (y + 1)).length .u8 5], .l .u8 (bufK (linP p) (y + 1))] := rfl
    simp only [eM, eb] at ihs
    clear ihO eb eM
    have hw3 := fun x hx => wrd_len hg (x := x) (y := y) hx (by omega)
    have hjl := fun x (hx : x ≤ 10) => txF_len (sep := ⟨#[32]⟩) (f := wrdP p y) (b := 1003) (Nat.le_refl 1) x fun j hj => hw3 j (by omega)
    have hj : joinL (wdF (wrdP p y) (p.getD 0 0).toNat) ⟨#[32]⟩ = txF ⟨#[32]⟩ (wrdP p y) (p.getD 0 0).toNat := joinL_txF _ _ _
    have hjs := hjl (p.getD 0 0).toNat (by omega)
    have hlin : txF ⟨#[32]⟩ (wrdP p y) (p.getD 0 0).toNat ++ ⟨#[10]⟩ = linP p y := rfl
    have hls : (linP p y).size = (txF ⟨#[32]⟩ (wrdP p y) (p.getD 0 0).toNat).size + 1 := by
      show (_ ++ _ : ByteArray).size = _
      rw [ByteArray.size_append]; rfl
    cases y with
    | zero =>
      refine Goes.tree Γ_ok htb 1000 false false Tryd.func24 rfl ?_
      ((try simp only [decide_eq_true_eq, decide_eq_false_iff_not, Bool.not_eq_true', Bool.not_eq_false', Bool.not_true, Bool.not_false, Bool.and_eq_true, Bool.or_eq_true, bne_iff_ne, beq_iff_eq, ne_eq]); (try simp only [rng, lo, hi, mnI, mxI, Int.toNat_natCast, Sg.n, Nat.mul_one, Nat.zero_add, Nat.add_zero, Nat.reduceAdd, List.getD_cons_zero, List.getD_cons_succ]))
      ((repeat' (first | (with_reducible apply And.intro) | intro _)); all_goals (first | exact trivial | (with_reducible assumption) | (show (_ : List Blk) = _; rfl) | (first | exact trivial | (with_reducible assumption) | omega | (split <;> omega) | (split <;> split <;> omega)) | skip); all_goals (try (refine ⟨rfl, (by first | exact Nat.le_refl _ | exact Nat.le_of_ble_eq_true rfl), rfl, rfl, ?_, (by repeat' (first | exact trivial | rfl | apply And.intro)), rfl, rfl⟩)))
      refine ⟨?_⟩
      refine Goes.loopR (fun x : Nat => (p.getD 0 0).toNat - x) (fun x => x ≤ (p.getD 0 0).toNat) (fun x => (.any :: .pw 0 .pas :: .any :: .rp 1 0 2 85 :: .i .i8 ((0 : Nat) : Int) :: .ow 2 (wdF (wrdP p 0) x).length .str 9 :: .any :: .any :: .any :: .any :: .any :: .any :: .any :: .any :: .i .i8 (p.getD 1 0) :: .i .i8 ((0 : Nat) : Int) :: .any :: .any :: .any :: .any :: .i .i8 (p.getD 0 0) :: .i .i8 (x : Int) :: .any :: .any :: .any :: .any :: .any :: .any :: .any :: .any :: .any :: .any :: .any :: .any :: .any :: .any :: .any :: .any :: .any :: .any :: .any :: .any :: .any :: .any :: .any :: .any :: .any :: .any :: .any :: .any :: .any :: .any :: .any :: .any :: [])) (fun x => [.c .pas p, .r [.np, .nsl], .s (wdF (wrdP p 0) x)]) 0 [0, 1, 2] (Nat.zero_le _) ⟨rfl, rfl, rfl, (by repeat' (first | exact trivial | rfl | apply And.intro)), (by repeat' (first | exact trivial | rfl | apply And.intro)), rfl, rfl, rfl⟩ fun x hx ih => ?_
      have hwx := wdF_len (wrdP p 0) x
      by_cases hltx : (x : Int) < p.getD 0 0
      · have ih2 := ih (x + 1) (by omega) (by omega)
        have ew : wdF (wrdP p 0) (x + 1) = wdF (wrdP p 0) x ++ [wrdP p 0 x] := rfl
        rw [ew] at ih2
        clear ih ew ihs
        have hw1 := hw3 x (by omega)
        have hgx := hg 0 x (by omega) (by omega)
        have ewd : wrdP p 0 x = addB (bitAt (p.getD (112 + 0) 0) x) 95 (addB (bitAt (p.getD (102 + 0) 0) x) 124 (grT p x 0)) := rfl
        have eg : gAt p [(x : Int), ((0 : Nat) : Int)] = p.getD (2 + 0 * 10 + x) 0 := by unfold gAt; simp only [List.getD_cons_zero, List.getD_cons_succ, Int.toNat_natCast, Nat.mul_one] <;> rfl
        have egr : digS (p.getD (2 + 0 * 10 + x) 0).toNat = grT p x 0 := rfl
        have es0 : stdP p [(x : Int), ((0 : Nat) : Int), 0] = bitAt (p.getD (102 + 0) 0) x := rfl
        have es1 : stdP p [(x : Int), ((0 : Nat) : Int), 1] = bitAt (p.getD (112 + 0) 0) x := rfl
        have ing : inG [(x : Int), ((0 : Nat) : Int), 0] ∧ inG [(x : Int), ((0 : Nat) : Int), 1] ∧ inG [(x : Int), ((0 : Nat) : Int)] := by simp only [inG, List.getD_cons_zero, List.getD_cons_succ]; omega
        have eh0 : (putSeg (List.replicate 3 0) 0 2 [(x : Int), ((0 : Nat) : Int)]).set 2 0 = [(x : Int), ((0 : Nat) : Int), 0] := rfl
        have eh1 : (putSeg (List.replicate 3 0) 0 2 [(x : Int), ((0 : Nat) : Int)]).set 2 1 = [(x : Int), ((0 : Nat) : Int), 1] := rfl
        have hdl := dig_len (p.getD (2 + 0 * 10 + x) 0).toNat
        rw [egr] at hdl
        rw [ewd] at ih2 hw1
        generalize wdF (wrdP p 0) x = W at *
        cases hE : bitAt (p.getD (102 + 0) 0) x <;> cases hS : bitAt (p.getD (112 + 0) 0) x
        all_goals
          rw [hE, hS] at ih2 hw1
          rw [hE] at es0
          rw [hS] at es1
          refine Goes.tree Γ_ok htb 1000 false false Tryd.func24 rfl ?_
          ((try simp only [decide_eq_true_eq, decide_eq_false_iff_not, Bool.not_eq_true', Bool.not_eq_false', Bool.not_true, Bool.not_false, Bool.and_eq_true, Bool.or_eq_true, bne_iff_ne, beq_iff_eq, ne_eq]); (try simp only [rng, lo, hi, mnI, mxI, Int.toNat_natCast, Sg.n, Nat.mul_one, Nat.zero_add, Nat.add_zero, Nat.reduceAdd, List.getD_cons_zero, List.getD_cons_succ, ↓reduceIte, Bool.false_eq_true, eh0, eh1, eg, egr, es0, es1]))
          ((repeat' (first | (with_reducible apply And.intro) | intro _)); all_goals (first | exact trivial | (with_reducible assumption) | (show (_ : List Blk) = _; rfl) | (first | exact trivial | (with_reducible assumption) | omega | (split <;> omega) | (split <;> split <;> omega)) | skip); all_goals (try (refine ⟨rfl, (by first | exact Nat.le_refl _ | exact Nat.le_of_ble_eq_true rfl), rfl, rfl, ?_, (by repeat' (first | exact trivial | rfl | apply And.intro)), rfl, rfl⟩)))
          all_goals (try first | omega | contradiction | exact ing.1 | exact ing.2.1 | exact ing.2.2 | (show _ ≤ 9223372036854775807; first | omega | (simp only [ByteArray.size_append, szb]; omega)) | (show (W ++ [_]).length ≤ _; rw [List.length_append, hwx]; show x + 1 ≤ _; omega) | (simp_all; done))
          exact ⟨ih2 [0, 1, 5] _ _ ⟨rfl, rfl, rfl, (by repeat' (first | exact trivial | rfl | apply And.intro)), (by repeat' (first | exact trivial | rfl | apply And.intro)), rfl, rfl, rfl⟩⟩
      · obtain rfl : x = (p.getD 0 0).toNat := by omega
        clear ih
        refine Goes.tree Γ_ok htb 1000 false false Tryd.func24 rfl ?_
        ((try simp only [decide_eq_true_eq, decide_eq_false_iff_not, Bool.not_eq_true', Bool.not_eq_false', Bool.not_true, Bool.not_false, Bool.and_eq_true, Bool.or_eq_true, bne_iff_ne, beq_iff_eq, ne_eq]); (try simp only [rng, lo, hi, mnI, mxI, Int.toNat_natCast, Sg.n, Nat.mul_one, Nat.zero_add, Nat.add_zero, Nat.reduceAdd, List.getD_cons_zero, List.getD_cons_succ, hj, hlin]))
        ((repeat' (first | (with_reducible apply And.intro) | intro _)); all_goals (first | exact trivial | (with_reducible assumption) | (show (_ : List Blk) = _; rfl) | (first | exact trivial | (with_reducible assumption) | omega | (split <;> omega) | (split <;> split <;> omega)) | skip); all_goals (try (refine ⟨rfl, (by first | exact Nat.le_refl _ | exact Nat.le_of_ble_eq_true rfl), rfl, rfl, ?_, (by repeat' (first | exact trivial | rfl | apply And.intro)), rfl, rfl⟩)))
        all_goals (try first | omega | contradiction | (show _ ≤ 9223372036854775807; first | omega | (simp only [ByteArray.size_append, szb]; omega)))
        exact ⟨ihs [0, 1, 3] _ _ ⟨rfl, rfl, rfl, (by repeat' (first | exact trivial | rfl | apply And.intro)), (by repeat' (first | exact trivial | rfl | apply And.intro)), rfl, rfl, rfl⟩⟩
    | succ y =>
      refine Goes.tree Γ_ok htb 1000 false false Tryd.func24 rfl ?_
      ((try simp only [decide_eq_true_eq, decide_eq_false_iff_not, Bool.not_eq_true', Bool.not_eq_false', Bool.not_true, Bool.not_false, Bool.and_eq_true, Bool.or_eq_true, bne_iff_ne, beq_iff_eq, ne_eq]); (try simp only [rng, lo, hi, mnI, mxI, Int.toNat_natCast, Sg.n, Nat.mul_one, Nat.zero_add, Nat.add_zero, Nat.reduceAdd, List.getD_cons_zero, List.getD_cons_succ]))
      ((repeat' (first | (with_reducible apply And.intro) | intro _)); all_goals (first | exact trivial | (with_reducible assumption) | (show (_ : List Blk) = _; rfl) | (first | exact trivial | (with_reducible assumption) | omega | (split <;> omega) | (split <;> split <;> omega)) | skip); all_goals (try (refine ⟨rfl, (by first | exact Nat.le_refl _ | exact Nat.le_of_ble_eq_true rfl), rfl, rfl, ?_, (by repeat' (first | exact trivial | rfl | apply And.intro)), rfl, rfl⟩)))
      refine ⟨?_⟩
      refine Goes.loopR (fun x : Nat => (p.getD 0 0).toNat - x) (fun x => x ≤ (p.getD 0 0).toNat) (fun x => (.any :: .pw 0 .pas :: .any :: .rp 1 0 2 85 :: .i .i8 ((y + 1 : Nat) : Int) :: .ow 3 (wdF (wrdP p (y + 1)) x).length .str 9 :: .any :: .any :: .any :: .any :: .any :: .any :: .any :: .any :: .i .i8 (p.getD 1 0) :: .i .i8 ((y + 1 : Nat) : Int) :: .any :: .any :: .any :: .any :: .i .i8 (p.getD 0 0) :: .i .i8 (x : Int) :: .any :: .any :: .any :: .any :: .any :: .any :: .any :: .any :: .any :: .any :: .any :: .any :: .any :: .any :: .any :: .any :: .any :: .any :: .any :: .any :: .any :: .any :: .any :: .any :: .any :: .any :: .any :: .any :: .any :: .any :: .any :: .any :: [])) (fun x => [.c .pas p, .r [.rp 1 0 2 85, .ow 2 (bufK (linP p) (y + 1)).length .u8 5], .l .u8 (bufK (linP p) (y + 1)), .s (wdF (wrdP p (y + 1)) x)]) 0 [0, 1, 2, 3] (Nat.zero_le _) ⟨rfl, rfl, rfl, (by repeat' (first | exact trivial | rfl | apply And.intro)), (by repeat' (first | exact trivial | rfl | apply And.intro)), rfl, rfl, rfl⟩ fun x hx ih => ?_
      have hwx := wdF_len (wrdP p (y + 1)) x
      by_cases hltx : (x : Int) < p.getD 0 0
      · have ih2 := ih (x + 1) (by omega) (by omega)
        have ew : wdF (wrdP p (y + 1)) (x + 1) = wdF (wrdP p (y + 1)) x ++ [wrdP p (y + 1) x] := rfl
        rw [ew] at ih2
        clear ih ew ihs
        have hw1 := hw3 x (by omega)
        have hgx := hg (y + 1) x (by omega) (by omega)
        have ewd : wrdP p (y + 1) x = addB (bitAt (p.getD (112 + (y + 1)) 0) x) 95 (addB (bitAt (p.getD (102 + (y + 1)) 0) x) 124 (grT p x (y + 1))) := rfl
        have eg : gAt p [(x : Int), ((y + 1 : Nat) : Int)] = p.getD (2 + (y + 1) * 10 + x) 0 := by unfold gAt; simp only [List.getD_cons_zero, List.getD_cons_succ, Int.toNat_natCast, Nat.mul_one] <;> rfl
        have egr : digS (p.getD (2 + (y + 1) * 10 + x) 0).toNat = grT p x (y + 1) := rfl
        have es0 : stdP p [(x : Int), ((y + 1 : Nat) : Int), 0] = bitAt (p.getD (102 + (y + 1)) 0) x := rfl
        have es1 : stdP p [(x : Int), ((y + 1 : Nat) : Int), 1] = bitAt (p.getD (112 + (y + 1)) 0) x := rfl
        have ing : inG [(x : Int), ((y + 1 : Nat) : Int), 0] ∧ inG [(x : Int), ((y + 1 : Nat) : Int), 1] ∧ inG [(x : Int), ((y + 1 : Nat) : Int)] := by simp only [inG, List.getD_cons_zero, List.getD_cons_succ]; omega
        have eh0 : (putSeg (List.replicate 3 0) 0 2 [(x : Int), ((y + 1 : Nat) : Int)]).set 2 0 = [(x : Int), ((y + 1 : Nat) : Int), 0] := rfl
        have eh1 : (putSeg (List.replicate 3 0) 0 2 [(x : Int), ((y + 1 : Nat) : Int)]).set 2 1 = [(x : Int), ((y + 1 : Nat) : Int), 1] := rfl
        have hdl := dig_len (p.getD (2 + (y + 1) * 10 + x) 0).toNat
        rw [egr] at hdl
        rw [ewd] at ih2 hw1
        generalize wdF (wrdP p (y + 1)) x = W at *
        cases hE : bitAt (p.getD (102 + (y + 1)) 0) x <;> cases hS : bitAt (p.getD (112 + (y + 1)) 0) x
        all_goals
          rw [hE, hS] at ih2 hw1
          rw [hE] at es0
          rw [hS] at es1
          refine Goes.tree Γ_ok htb 1000 false false Tryd.func24 rfl ?_
          ((try simp only [decide_eq_true_eq, decide_eq_false_iff_not, Bool.not_eq_true', Bool.not_eq_false', Bool.not_true, Bool.not_false, Bool.and_eq_true, Bool.or_eq_true, bne_iff_ne, beq_iff_eq, ne_eq]); (try simp only [rng, lo, hi, mnI, mxI, Int.toNat_natCast, Sg.n, Nat.mul_one, Nat.zero_add, Nat.add_zero, Nat.reduceAdd, List.getD_cons_zero, List.getD_cons_succ, ↓reduceIte, Bool.false_eq_true, eh0, eh1, eg, egr, es0, es1]))
          ((repeat' (first | (with_reducible apply And.intro) | intro _)); all_goals (first | exact trivial | (with_reducible assumption) | (show (_ : List Blk) = _; rfl) | (first | exact trivial | (with_reducible assumption) | omega | (split <;> omega) | (split <;> split <;> omega)) | skip); all_goals (try (refine ⟨rfl, (by first | exact Nat.le_refl _ | exact Nat.le_of_ble_eq_true rfl), rfl, rfl, ?_, (by repeat' (first | exact trivial | rfl | apply And.intro)), rfl, rfl⟩)))
          all_goals (try first | omega | contradiction | exact ing.1 | exact ing.2.1 | exact ing.2.2 | (show _ ≤ 9223372036854775807; first | omega | (simp only [ByteArray.size_append, szb]; omega)) | (show (W ++ [_]).length ≤ _; rw [List.length_append, hwx]; show x + 1 ≤ _; omega) | (simp_all; done))
          exact ⟨ih2 [0, 1, 2, 6] _ _ ⟨rfl, rfl, rfl, (by repeat' (first | exact trivial | rfl | apply And.intro)), (by repeat' (first | exact trivial | rfl | apply And.intro)), rfl, rfl, rfl⟩⟩
      · obtain rfl : x = (p.getD 0 0).toNat := by omega
        clear ih
        refine Goes.tree Γ_ok htb 1000 false false Tryd.func24 rfl ?_
        ((try simp only [decide_eq_true_eq, decide_eq_false_iff_not, Bool.not_eq_true', Bool.not_eq_false', Bool.not_true, Bool.not_false, Bool.and_eq_true, Bool.or_eq_true, bne_iff_ne, beq_iff_eq, ne_eq]); (try simp only [rng, lo, hi, mnI, mxI, Int.toNat_natCast, Sg.n, Nat.mul_one, Nat.zero_add, Nat.add_zero, Nat.reduceAdd, List.getD_cons_zero, List.getD_cons_succ, hj, hlin]))
        ((repeat' (first | (with_reducible apply And.intro) | intro _)); all_goals (first | exact trivial | (with_reducible assumption) | (show (_ : List Blk) = _; rfl) | (first | exact trivial | (with_reducible assumption) | omega | (split <;> omega) | (split <;> split <;> omega)) | skip); all_goals (try (refine ⟨rfl, (by first | exact Nat.le_refl _ | exact Nat.le_of_ble_eq_true rfl), rfl, rfl, ?_, (by repeat' (first | exact trivial | rfl | apply And.intro)), rfl, rfl⟩)))
        all_goals (try first | omega | contradiction | (show _ ≤ 9223372036854775807; first | omega | (simp only [ByteArray.size_append, szb]; omega)))
        exact ⟨ihs [0, 1, 4] _ _ ⟨rfl, rfl, rfl, (by repeat' (first | exact trivial | rfl | apply And.intro)), (by repeat' (first | exact trivial | rfl | apply And.intro)), rfl, rfl, rfl⟩⟩
  · obtain rfl : y = (p.getD 1 0).toNat := by omega
    clear ihO
    have eX := buf_text (linP p) (p.getD 1 0).toNat
    obtain ⟨n, hn⟩ : ∃ n, (p.getD 1 0).toNat = n + 1 := ⟨(p.getD 1 0).toNat - 1, by omega⟩
    have hpos : 0 < (bufK (linP p) (n + 1)).length := by
      rw [buf_len]
      unfold catT linP
      simp only [ByteArray.size_append, szb]; omega
    rw [hn] at eX hres ⊢
    refine Goes.tree Γ_ok htb 1000 false false Tryd.func24 rfl ?_
    ((try simp only [decide_eq_true_eq, decide_eq_false_iff_not, Bool.not_eq_true', Bool.not_eq_false', Bool.not_true, Bool.not_false, Bool.and_eq_true, Bool.or_eq_true, bne_iff_ne, beq_iff_eq, ne_eq]); (try simp only [rng, lo, hi, mnI, mxI, Int.toNat_natCast, Sg.n, Nat.mul_one, Nat.zero_add, Nat.add_zero, Nat.reduceAdd, List.getD_cons_zero, List.getD_cons_succ, eX]))
    ((repeat' (first | (with_reducible apply And.intro) | intro _)); all_goals (first | exact trivial | (with_reducible assumption) | (show (_ : List Blk) = _; rfl) | (first | exact trivial | (with_reducible assumption) | omega | (split <;> omega) | (split <;> split <;> omega)) | skip); all_goals (try (refine ⟨rfl, (by first | exact Nat.le_refl _ | exact Nat.le_of_ble_eq_true rfl), rfl, rfl, ?_, (by repeat' (first | exact trivial | rfl | apply And.intro)), rfl, rfl⟩)))
    all_goals (try first | omega | contradiction)
    · show sameA (.s (ptxT p)) _
      rw [hres]; exact sameA_refl _
end Go.Proofs.YtplnfdgokpgbcaaDoor
