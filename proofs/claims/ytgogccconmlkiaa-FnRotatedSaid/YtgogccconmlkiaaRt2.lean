/- Days of rotation, plain: what a walk over the days finds. -/
import Derived.Test.YtgogccconmlkiaaRch0
import Derived.Test.YtgogccconmlkiaaShort
import Derived.Test.YtgogccconmlkiaaNGrazeYard
import Derived.Test.YtgogccconmlkiaaNBestStay
import Derived.Test.YtgogccconmlkiaaNBalanceOf
import Derived.Test.YtgogccconmlkiaaFc
import Derived.Test.YtgogccconmlkiaaDraw4
import Derived.Test.YtgogccconmlkiaaEngG
namespace Go.Proofs.Ytgogccconmlkiaa
open Go Go.Eng
set_option linter.unusedSimpArgs false
set_option linter.unusedVariables false
set_option maxRecDepth 100000
set_option maxHeartbeats 4000000

/-! Yards of a list of yards. -/
theorem rowF_memR {f : List Int → Bool} {acc : List (List Int)} {y x' : Nat} (hf : f [(x' : Int), (y : Int)] = true) : ∀ x, x' < x → [(x' : Int), (y : Int)] ∈ rowF f acc y x := by
  intro x
  induction x with
  | zero => intro h; omega
  | succ x ih =>
    intro h
    unfold rowF
    by_cases hx : x' = x
    · subst hx
      rw [if_pos hf]
      exact List.mem_append.2 (.inr (List.mem_singleton.2 rfl))
    · split
      · exact List.mem_append.2 (.inl (ih (by omega)))
      · exact ih (by omega)
theorem rowF_accR {f : List Int → Bool} {acc : List (List Int)} {y : Nat} {s : List Int} (h : s ∈ acc) : ∀ x, s ∈ rowF f acc y x := by
  intro x
  induction x with
  | zero => exact h
  | succ x ih =>
    unfold rowF
    split
    · exact List.mem_append.2 (.inl ih)
    · exact ih
theorem spotsF_memR {f : List Int → Bool} {w x' y' : Nat} (hf : f [(x' : Int), (y' : Int)] = true) (hx : x' < w) : ∀ y, y' < y → [(x' : Int), (y' : Int)] ∈ spotsF f w y := by
  intro y
  induction y with
  | zero => intro h; omega
  | succ y ih =>
    intro h
    unfold spotsF
    by_cases hy : y' = y
    · subst hy; exact rowF_memR hf w hx
    · exact rowF_accR (ih (by omega)) w
theorem yl_of {p : List Int} (l : List (List Int)) : ∀ S : YS, (∀ c ∈ l, cellP p c) → (∀ Y ∈ S.2.1, ∃ c, cellP p c ∧ Y = yardR p c) → ∀ Y ∈ (l.foldl (ySt p) S).2.1, ∃ c, cellP p c ∧ Y = yardR p c := by
  induction l with
  | nil => intro S _ h; exact h
  | cons c l ih =>
    intro S hl h
    refine ih _ (fun c hc => hl c (List.mem_cons_of_mem _ hc)) ?_
    intro Y hY
    unfold ySt at hY
    split at hY
    · exact h Y hY
    · rcases List.mem_append.1 hY with hY | hY
      · exact h Y hY
      · exact ⟨c, hl c List.mem_cons_self, List.mem_singleton.1 hY⟩
theorem yl_yard {p : List Int} (hd : okD p) {Y : List (List Int)} (h : Y ∈ yL p (spots p)) : 0 < Y.length ∧ cellP p (Y.getD 0 []) ∧ yardR p (Y.getD 0 []) = Y := by
  obtain ⟨c, hc, rfl⟩ := yl_of (spots p) (List.replicate 100 0, [], []) (fun c hc => spots_in hd c hc) (fun Y h => by cases h) Y h
  have hm : c ∈ yardR p c := by
    obtain ⟨x, y, e, hx, hy⟩ := cell_in hc
    have hf : inT (m1 (bfsD p [c])) c = true := by rw [inT_rch hd hc hc]; exact decide_eq_true (reach_refl hd hc)
    unfold yardR
    rw [e] at hf ⊢
    exact spotsF_memR hf hx _ hy
  have hl : 0 < (yardR p c).length := List.length_pos_of_mem hm
  have h0 : (yardR p c).getD 0 [] ∈ yardR p c := getD_mem hl
  have hcr := (yard_isP hd _ h0).2
  have hcl := (yardR_cells hd _ h0).2
  refine ⟨hl, ⟨hcr, hcl⟩, yard_eq hd hc ⟨hcr, hcl⟩ ?_⟩
  have := (mem_spotsF h0).1
  rw [inT_rch hd hc ⟨hcr, hcl⟩] at this
  exact of_decide_eq_true this
theorem yl_mono {p : List Int} (l : List (List Int)) : ∀ S : YS, S.2.1.length ≤ (l.foldl (ySt p) S).2.1.length := by
  induction l with
  | nil => intro S; exact Nat.le_refl _
  | cons c l ih =>
    intro S
    refine Nat.le_trans ?_ (ih _)
    unfold ySt
    split
    · exact Nat.le_refl _
    · simp
theorem yl_pos {p : List Int} (hd : okD p) : 0 < (yL p (spots p)).length := by
  have h0 : (spots p) ≠ [] := by
    intro e
    have hc : [(0 : Int), (0 : Int)] ∈ spots p := mem_spotsY.2 ⟨0, 0, by unfold okD at hd; omega, by unfold okD at hd; omega, rfl⟩
    rw [e] at hc; cases hc
  obtain ⟨c, l, e⟩ := List.exists_cons_of_ne_nil h0
  unfold yL yF
  rw [e, List.foldl_cons]
  refine Nat.lt_of_lt_of_le ?_ (yl_mono l _)
  unfold ySt
  rw [if_neg]
  · simp
  · have z : (List.replicate 100 (0 : Int)).getD (cx c) 0 = 0 := by rw [List.getD_eq_getElem?_getD, List.getElem?_replicate]; split <;> rfl
    dsimp only
    rw [z]; decide

/-! A day. -/
theorem fc_grz {p : List Int} {rows : List (List Int)} {l : Int} (hl : p.length = 122) (hr : ∀ s ∈ rows, inG s ∧ isP p s = true) : ∀ i, i ≤ rows.length → FcS p (grzK p rows l i).1 := by
  intro i
  induction i with
  | zero => intro _; exact FcS.refl hl
  | succ i ih =>
    intro hib
    have h1 := ih (by omega)
    obtain ⟨h2, h3⟩ := hr _ (getD_memF (show i < rows.length by omega))
    unfold grzK grz1
    exact h1.trans (FcS.set h1.len h2 ((isP_same h1 _).trans h3) _)
theorem grz_sum {p : List Int} {rows : List (List Int)} {l : Int} (hp : GR p) (hr : ∀ s ∈ rows, inG s) (h0 : 0 ≤ l) : ∀ i, i ≤ rows.length → sumA (grzK p rows l i).1 10 + (grzK p rows l i).2 = sumA p 10 := by
  intro i
  induction i with
  | zero => intro _; show sumA p 10 + 0 = _; omega
  | succ i ih =>
    intro hib
    have h2 := ih (by omega)
    obtain ⟨g1, -⟩ := grzK_ok hp hr h0 i (by omega)
    have hs := hr _ (getD_memF (show i < rows.length by omega))
    unfold grzK grz1
    show sumA (List.set _ _ _) 10 + (_ + _) = _
    rw [sumA_gx g1 hs]; omega
theorem grow_sum {g : List Int} {but : List (List Int)} {p : List Int} {rows : List (List Int)} (hg : okG g) (hp : GR p) (hr : ∀ s ∈ rows, inG s) : ∀ i, i ≤ rows.length → sumA p 10 ≤ sumA (growK g but p rows i) 10 := by
  intro i
  induction i with
  | zero => intro _; exact Int.le_refl _
  | succ i ih =>
    intro hib
    have h2 := ih (by omega)
    obtain ⟨g1, -⟩ := growK_ok (but := but) hg hp hr i (by omega)
    have hs := hr _ (getD_memF (show i < rows.length by omega))
    have hv := g1.rng _ hs
    have hw := grown_ok hg hv.1 hv.2
    unfold growK grow1
    split
    · exact h2
    · rw [sumA_gx g1 hs]; omega
theorem grow_cell {g : List Int} {but : List (List Int)} {p : List Int} {rows : List (List Int)} {k : Nat} (h : ∀ r ∈ rows, gx r ≠ k) : ∀ i, i ≤ rows.length → (growK g but p rows i).getD k 0 = p.getD k 0 := by
  intro i
  induction i with
  | zero => intro _; rfl
  | succ i ih =>
    intro hib
    have hs := h _ (getD_memF (show i < rows.length by omega))
    unfold growK grow1
    split
    · exact ih (by omega)
    · rw [sg_get, if_neg (fun e => hs e.1)]; exact ih (by omega)
theorem GL_cell {g : List Int} {but : List (List Int)} {p : List Int} {w y x : Nat} (hw : w ≤ 10) (hx : x < 10) : (GL g but p (rowA (spotsY w y) y x)).getD (2 + y * 10 + x) 0 = p.getD (2 + y * 10 + x) 0 := by
  refine grow_cell (fun r hr => ?_) _ (Nat.le_refl _)
  rcases mem_rowA.1 hr with h | ⟨i, h1, rfl⟩
  · obtain ⟨j, i, h1, h2, rfl⟩ := mem_spotsY.1 h
    simp only [gx, List.getD_cons_zero, List.getD_cons_succ, Int.toNat_natCast]; omega
  · simp only [gx, List.getD_cons_zero, List.getD_cons_succ, Int.toNat_natCast]; omega
/-- All that a day of rotation shows. -/
structure RtD (p g : List Int) (rows : List (List Int)) (stay eats days : Int) (q : List Int) (Y : List (List Int)) : Prop where
  fc : FcS p q
  ok : okP q
  gr : GR q
  y0 : 0 < Y.length ∧ Y.length ≤ 100
  yc : cellsR Y
  r0 : isP p (Y.getD 0 []) = true
  cc : grzC q (Y.getD 0 []) eats = 0
  pp : grzYP q (Y.getD 0 []) eats = (grzK q Y eats Y.length).1
  vv : grzYV q (Y.getD 0 []) eats = (grzK q Y eats Y.length).2
  ee : 0 ≤ (grzK q Y eats Y.length).2 ∧ (grzK q Y eats Y.length).2 ≤ eats
  s : sumA (grzK q Y eats Y.length).1 10 + (grzK q Y eats Y.length).2 = sumA q 10
  ag : GR (grzK q Y eats Y.length).1
  ad : okD (grzK q Y eats Y.length).1
  a2 : ∀ j, j < 2 → (grzK q Y eats Y.length).1.getD j 0 = p.getD j 0
  af : FcS p (grzK q Y eats Y.length).1
  ns : sumA (grzK q Y eats Y.length).1 10 ≤ sumA (growP g Y (grzK q Y eats Y.length).1) 10
theorem rt_day {p g : List Int} {rows : List (List Int)} {stay eats days : Int} (hl : p.length = 122) (hok : okP p) (h : RtOk p g (yL p (spots p)) rows stay eats days) : ∀ d, RtD p g rows stay eats days (rtK p g (yL p (spots p)) rows stay eats d).1 (dyY (yL p (spots p)) rows stay d) := by
  have step : ∀ d, FcS p (rtK p g (yL p (spots p)) rows stay eats d).1 ∧ okP (rtK p g (yL p (spots p)) rows stay eats d).1 → RtD p g rows stay eats days (rtK p g (yL p (spots p)) rows stay eats d).1 (dyY (yL p (spots p)) rows stay d) := by
    intro d ⟨f1, f2⟩
    have hK := rtK_ok h d
    obtain ⟨y1, y2⟩ := dyY_ok h.ys h.st.1 h.od d
    obtain ⟨-, -, -, -, o1, o2⟩ := dy_ok h.st.1 h.od d
    have hm : dyY (yL p (spots p)) rows stay d ∈ yL p (spots p) := getD_mem (by omega)
    obtain ⟨z1, z2, z3⟩ := yl_yard hok.1 hm
    generalize dyY (yL p (spots p)) rows stay d = Y at *
    generalize (rtK p g (yL p (spots p)) rows stay eats d).1 = q at *
    have hY : ∀ s ∈ Y, inG s ∧ isP q s = true := fun s hs => by
      rw [← z3] at hs
      have := yard_isP hok.1 s hs
      exact ⟨this.1, (isP_same f1 s).trans this.2⟩
    have hYg : ∀ s ∈ Y, inG s := fun s hs => (hY s hs).1
    have hc : grzC q (Y.getD 0 []) eats = 0 := by
      unfold grzC boundC
      rw [codeP_one, if_pos f2, if_pos ((isP_same f1 _).trans z2.1), if_pos rfl, if_pos h.ea]
    have hyq : yardR q (Y.getD 0 []) = Y := (yard_same f1 _).trans z3
    obtain ⟨g1, g2, g3, g4⟩ := grzK_ok hK.1 hYg h.ea.1 Y.length (Nat.le_refl _)
    have hf := fc_grz (l := eats) f1.len hY Y.length (Nat.le_refl _)
    have ha2 : ∀ j, j < 2 → (grzK q Y eats Y.length).1.getD j 0 = p.getD j 0 := fun j hj => (g4 j hj).trans (f1.same j (by omega))
    have hda : okD (grzK q Y eats Y.length).1 := by
      have := hok.1
      unfold okD at *
      rw [ha2 0 (by omega), ha2 1 (by omega)]; exact this
    exact ⟨f1, f2, hK.1, ⟨z1, y2⟩, y1, z2.1, hc, by rw [grzYP, if_pos hc, hyq], by rw [grzYV, if_pos hc, hyq], ⟨g2, g3⟩, grz_sum hK.1 hYg h.ea.1 _ (Nat.le_refl _), g1, hda, ha2, f1.trans hf,
      grow_sum h.gg g1 (spots_ok hda).2 _ (Nat.le_refl _)⟩
  intro d
  refine step d ?_
  induction d with
  | zero => exact ⟨FcS.refl hl, hok⟩
  | succ d ih =>
    have hD := step d ih
    have e : (rtK p g (yL p (spots p)) rows stay eats (d + 1)).1 = growP g (dyY (yL p (spots p)) rows stay d) (grzK (rtK p g (yL p (spots p)) rows stay eats d).1 (dyY (yL p (spots p)) rows stay d) eats (dyY (yL p (spots p)) rows stay d).length).1 := rfl
    have hK := rtK_ok h (d + 1)
    have hf := fc_grow (g := g) (but := dyY (yL p (spots p)) rows stay d) hD.af.len (spots_isP hD.ad) _ (Nat.le_refl _)
    have hF := hD.af.trans hf
    rw [e] at hK ⊢
    exact ⟨hF, okP_same hF hok hK.1⟩
theorem rt_get {p g : List Int} {Ys : List (List (List Int))} {rows : List (List Int)} {stay eats days : Int} (h : RtOk p g Ys rows stay eats days) {j : Nat} : ∀ n, j < n → (rtK p g Ys rows stay eats n).2.getD j [] = [(grzK (rtK p g Ys rows stay eats j).1 (dyY Ys rows stay j) eats (dyY Ys rows stay j).length).2] := by
  intro n
  induction n with
  | zero => intro hj; omega
  | succ n ih =>
    intro hj
    have hl := (rtK_ok h n).2.2.1
    show (_ ++ [_]).getD j [] = _
    by_cases e : j = n
    · subst e
      rw [List.getD_eq_getElem?_getD, List.getElem?_append_right (by omega), hl, Nat.sub_self]; rfl
    · rw [List.getD_eq_getElem?_getD, List.getElem?_append_left (by omega), ← List.getD_eq_getElem?_getD]
      exact ih (by omega)

/-! Lists of numbers. -/
def hasI (rows : List (List Int)) (v : Int) : Bool := rows.any fun r => decide (r.getD 0 0 = v)
theorem shL_has (S : List (List Int)) (eats : Int) (j : Nat) : ∀ n, hasI (shL S eats n) (j : Int) = decide (j < n ∧ (S.getD j []).getD 0 0 < eats) := by
  intro n
  induction n with
  | zero => rw [decide_eq_false (by omega)]; rfl
  | succ n ih =>
    unfold shL
    split
    · rename_i hlt
      unfold hasI at ih ⊢
      rw [List.any_append, ih]
      simp only [List.any_cons, List.any_nil, Bool.or_false, List.getD_cons_zero]
      by_cases e : j = n
      · subst e
        rw [decide_eq_false (by omega), Bool.false_or, decide_eq_decide]
        exact ⟨fun _ => ⟨by omega, hlt⟩, fun _ => rfl⟩
      · rw [decide_eq_false (show ¬ ((n : Int) = (j : Int)) by omega), Bool.or_false, decide_eq_decide]
        constructor <;> (rintro ⟨a, b⟩; exact ⟨by omega, b⟩)
    · rename_i hlt
      rw [ih, decide_eq_decide]
      constructor
      · rintro ⟨a, b⟩; exact ⟨by omega, b⟩
      · rintro ⟨a, b⟩
        by_cases e : j = n
        · subst e; exact absurd b hlt
        · exact ⟨by omega, b⟩
theorem bsK_max {f : Nat → Int} : ∀ i s, 1 ≤ s → s ≤ i → f s ≤ (bsK f i).2 := by
  intro i
  induction i with
  | zero => intro s h1 h2; omega
  | succ i ih =>
    intro s h1 h2
    unfold bsK
    by_cases e : s = i + 1
    · subst e
      split
      · exact Int.le_refl _
      · rename_i h; omega
    · have := ih s h1 (by omega)
      split
      · dsimp only; omega
      · exact this
end Go.Proofs.Ytgogccconmlkiaa

namespace Go.Proofs.Ytgogccconmlkiaa
open Go Go.Eng
set_option linter.unusedSimpArgs false
set_option linter.unusedVariables false
set_option maxRecDepth 100000
set_option maxHeartbeats 4000000

noncomputable def yofS : Fun
  | [.ag .pas p], [] => some (.t2 (.fz .spot (yL p (spots p))) (.i .i64 0), [], [okP p])
  | _, _ => .none
set_option maxRecDepth 100000 in
theorem s_yardsOfF : Sound Try.prog 32 yofS := by
  intro args M r M' vs h hvs
  unfold yofS at h
  split at h
  case h_2 => cases h
  rename_i p
  cases h
  refine SpecOK.assume fun hA hM => ?_
  have htb := (TbOk.cons s_ValidPasture Try.func75 rfl rfl (TbOk.cons s_yards Try.func76 rfl rfl (TbOk.nil : TbOk Try.prog tb0)))
  refine SpecOK.of_goes [] Try.func32 rfl ?_
  obtain ⟨hp, -⟩ := hvs
  clear hA hM
  refine Goes.tree Γ_ok htb 1000 true false Try.func32 rfl ?_
  ((try simp only [decide_eq_true_eq, decide_eq_false_iff_not, Bool.not_eq_true', Bool.not_eq_false', Bool.not_true, Bool.not_false, Bool.and_eq_true, Bool.or_eq_true, bne_iff_ne, beq_iff_eq, ne_eq]); (try simp only [rng, lo, hi, mnI, mxI, Int.toNat_natCast, Sg.n, Nat.mul_one, Nat.zero_add, Nat.add_zero, Nat.reduceAdd, List.getD_cons_zero, List.getD_cons_succ]))
  ((repeat' (first | (with_reducible apply And.intro) | intro _)); all_goals (first | exact trivial | (with_reducible assumption) | (show (_ : List Blk) = _; rfl) | (first | exact trivial | (with_reducible assumption) | omega | (split <;> omega) | (split <;> split <;> omega)) | skip); all_goals (try (refine ⟨rfl, (by first | exact Nat.le_refl _ | exact Nat.le_of_ble_eq_true rfl), rfl, rfl, ?_, (by repeat' (first | exact trivial | rfl | apply And.intro)), rfl, rfl⟩)))
  all_goals (try first | contradiction | exact hp.1 | exact sameA_refl _)

def samIS : Fun
  | [.fs .i64 xs, .fs .i64 ys], [] => some (.d true, [], [xs = ys])
  | _, _ => .none
set_option maxRecDepth 100000 in
theorem s_l00SameI : Sound Try.prog 77 samIS := by
  intro args M r M' vs h hvs
  unfold samIS at h
  split at h
  case h_2 => cases h
  rename_i xs ys
  cases h
  refine SpecOK.assume fun hA hM => ?_
  have htb := (TbOk.nil : TbOk Try.prog tb0)
  refine SpecOK.of_goes [] Try.func77 rfl ?_
  obtain ⟨rfl, -⟩ := hvs
  have hl : xs.length ≤ maxLen := hA.2.2.1
  have hm : maxLen = 9223372036854775807 := rfl
  clear hA hM
  refine Goes.tree Γ_ok htb 1000 false false Try.func77 rfl ?_
  ((try simp only [decide_eq_true_eq, decide_eq_false_iff_not, Bool.not_eq_true', Bool.not_eq_false', Bool.not_true, Bool.not_false, Bool.and_eq_true, Bool.or_eq_true, bne_iff_ne, beq_iff_eq, ne_eq]); (try simp only [rng, lo, hi, mnI, mxI, Int.toNat_natCast, Sg.n, Nat.mul_one, Nat.zero_add, Nat.add_zero, Nat.reduceAdd, List.getD_cons_zero, List.getD_cons_succ]))
  ((repeat' (first | (with_reducible apply And.intro) | intro _)); all_goals (first | exact trivial | (with_reducible assumption) | (show (_ : List Blk) = _; rfl) | (first | exact trivial | (with_reducible assumption) | omega | (split <;> omega) | (split <;> split <;> omega)) | skip); all_goals (try (refine ⟨rfl, (by first | exact Nat.le_refl _ | exact Nat.le_of_ble_eq_true rfl), rfl, rfl, ?_, (by repeat' (first | exact trivial | rfl | apply And.intro)), rfl, rfl⟩)))
  all_goals (try first | contradiction | omega)
  refine ⟨?_⟩
  refine Goes.loopR (fun i : Nat => xs.length - i) (fun i => i ≤ xs.length) (fun i => (.fs .i64 xs :: .fs .i64 xs :: .any :: .any :: .any :: .i .i64 (i : Int) :: .any :: .any :: .any :: .any :: .any :: .any :: .any :: .any :: .any :: .any :: .any :: .any :: .any :: .any :: .any :: .any :: .any :: .any :: .any :: .any :: [])) (fun _ => []) 0 [] (Nat.zero_le _) ⟨rfl, rfl, rfl, (by repeat' (first | exact trivial | rfl | apply And.intro)), (by repeat' (first | exact trivial | rfl | apply And.intro)), rfl, rfl, rfl⟩ fun i hib ih => ?_
  by_cases hlt : i < xs.length
  · refine Goes.tree Γ_ok htb 1000 false false Try.func77 rfl ?_
    ((try simp only [decide_eq_true_eq, decide_eq_false_iff_not, Bool.not_eq_true', Bool.not_eq_false', Bool.not_true, Bool.not_false, Bool.and_eq_true, Bool.or_eq_true, bne_iff_ne, beq_iff_eq, ne_eq]); (try simp only [rng, lo, hi, mnI, mxI, Int.toNat_natCast, Sg.n, Nat.mul_one, Nat.zero_add, Nat.add_zero, Nat.reduceAdd, List.getD_cons_zero, List.getD_cons_succ]))
    ((repeat' (first | (with_reducible apply And.intro) | intro _)); all_goals (first | exact trivial | (with_reducible assumption) | (show (_ : List Blk) = _; rfl) | (first | exact trivial | (with_reducible assumption) | omega | (split <;> omega) | (split <;> split <;> omega)) | skip); all_goals (try (refine ⟨rfl, (by first | exact Nat.le_refl _ | exact Nat.le_of_ble_eq_true rfl), rfl, rfl, ?_, (by repeat' (first | exact trivial | rfl | apply And.intro)), rfl, rfl⟩)))
    all_goals (try first | contradiction | omega)
    all_goals (try exact ⟨ih (i + 1) (by omega) (by omega) [] _ _ ⟨rfl, rfl, rfl, (by repeat' (first | exact trivial | rfl | apply And.intro)), (by repeat' (first | exact trivial | rfl | apply And.intro)), rfl, rfl, rfl⟩⟩)
  · clear ih
    refine Goes.tree Γ_ok htb 1000 false false Try.func77 rfl ?_
    ((try simp only [decide_eq_true_eq, decide_eq_false_iff_not, Bool.not_eq_true', Bool.not_eq_false', Bool.not_true, Bool.not_false, Bool.and_eq_true, Bool.or_eq_true, bne_iff_ne, beq_iff_eq, ne_eq]); (try simp only [rng, lo, hi, mnI, mxI, Int.toNat_natCast, Sg.n, Nat.mul_one, Nat.zero_add, Nat.add_zero, Nat.reduceAdd, List.getD_cons_zero, List.getD_cons_succ]))
    ((repeat' (first | (with_reducible apply And.intro) | intro _)); all_goals (first | exact trivial | (with_reducible assumption) | (show (_ : List Blk) = _; rfl) | (first | exact trivial | (with_reducible assumption) | omega | (split <;> omega) | (split <;> split <;> omega)) | skip); all_goals (try (refine ⟨rfl, (by first | exact Nat.le_refl _ | exact Nat.le_of_ble_eq_true rfl), rfl, rfl, ?_, (by repeat' (first | exact trivial | rfl | apply And.intro)), rfl, rfl⟩)))
    all_goals (try first | contradiction | omega | exact sameA_refl _)
set_option maxRecDepth 100000 in
theorem s_a2Same : Sound Try.prog 34 samIS := by
  intro args M r M' vs h hvs
  unfold samIS at h
  split at h
  case h_2 => cases h
  rename_i xs ys
  cases h
  refine SpecOK.assume fun hA hM => ?_
  have htb := (TbOk.cons s_l00SameI Try.func77 rfl rfl (TbOk.nil : TbOk Try.prog tb0))
  refine SpecOK.of_goes [] Try.func34 rfl ?_
  obtain ⟨he, -⟩ := hvs
  clear hA hM
  refine Goes.tree Γ_ok htb 1000 false false Try.func34 rfl ?_
  ((try simp only [decide_eq_true_eq, decide_eq_false_iff_not, Bool.not_eq_true', Bool.not_eq_false', Bool.not_true, Bool.not_false, Bool.and_eq_true, Bool.or_eq_true, bne_iff_ne, beq_iff_eq, ne_eq]); (try simp only [rng, lo, hi, mnI, mxI, Int.toNat_natCast, Sg.n, Nat.mul_one, Nat.zero_add, Nat.add_zero, Nat.reduceAdd, List.getD_cons_zero, List.getD_cons_succ]))
  ((repeat' (first | (with_reducible apply And.intro) | intro _)); all_goals (first | exact trivial | (with_reducible assumption) | (show (_ : List Blk) = _; rfl) | (first | exact trivial | (with_reducible assumption) | omega | (split <;> omega) | (split <;> split <;> omega)) | skip); all_goals (try (refine ⟨rfl, (by first | exact Nat.le_refl _ | exact Nat.le_of_ble_eq_true rfl), rfl, rfl, ?_, (by repeat' (first | exact trivial | rfl | apply And.intro)), rfl, rfl⟩)))
  all_goals (try first | exact he | exact sameA_refl _)

def hasIS : Fun
  | [.fs .i64 rows, .i .i64 v], [] => some (.b (hasI rows v), [], [])
  | _, _ => .none
set_option maxRecDepth 100000 in
theorem s_l00HasI : Sound Try.prog 79 hasIS := by
  intro args M r M' vs h hvs
  unfold hasIS at h
  split at h
  case h_2 => cases h
  rename_i rows v
  cases h
  refine SpecOK.assume fun hA hM => ?_
  have htb := (TbOk.nil : TbOk Try.prog tb0)
  refine SpecOK.of_goes [] Try.func79 rfl ?_
  have hl : rows.length ≤ maxLen := hA.1
  have hm : maxLen = 9223372036854775807 := rfl
  clear hA hM
  refine Goes.tree Γ_ok htb 1000 false false Try.func79 rfl ?_
  ((try simp only [decide_eq_true_eq, decide_eq_false_iff_not, Bool.not_eq_true', Bool.not_eq_false', Bool.not_true, Bool.not_false, Bool.and_eq_true, Bool.or_eq_true, bne_iff_ne, beq_iff_eq, ne_eq]); (try simp only [rng, lo, hi, mnI, mxI, Int.toNat_natCast, Sg.n, Nat.mul_one, Nat.zero_add, Nat.add_zero, Nat.reduceAdd, List.getD_cons_zero, List.getD_cons_succ]))
  ((repeat' (first | (with_reducible apply And.intro) | intro _)); all_goals (first | exact trivial | (with_reducible assumption) | (show (_ : List Blk) = _; rfl) | (first | exact trivial | (with_reducible assumption) | omega | (split <;> omega) | (split <;> split <;> omega)) | skip); all_goals (try (refine ⟨rfl, (by first | exact Nat.le_refl _ | exact Nat.le_of_ble_eq_true rfl), rfl, rfl, ?_, (by repeat' (first | exact trivial | rfl | apply And.intro)), rfl, rfl⟩)))
  all_goals (try first | contradiction | omega)
  refine ⟨?_⟩
  refine Goes.loopR (fun i : Nat => rows.length - i) (fun i => i ≤ rows.length ∧ ∀ j, j < i → decide ((rows.getD j []).getD 0 0 = v) = false) (fun i => (.fs .i64 rows :: .i .i64 v :: .any :: .any :: .any :: .i .i64 (i : Int) :: .any :: .any :: .any :: .any :: .any :: .any :: .any :: .any :: .any :: .any :: .any :: .any :: [])) (fun _ => []) 0 [] ⟨Nat.zero_le _, fun j hj => by omega⟩ ⟨rfl, rfl, rfl, (by repeat' (first | exact trivial | rfl | apply And.intro)), (by repeat' (first | exact trivial | rfl | apply And.intro)), rfl, rfl, rfl⟩ fun i ⟨hib, hno⟩ ih => ?_
  by_cases hlt : i < rows.length
  · refine Goes.tree Γ_ok htb 1000 false false Try.func79 rfl ?_
    ((try simp only [decide_eq_true_eq, decide_eq_false_iff_not, Bool.not_eq_true', Bool.not_eq_false', Bool.not_true, Bool.not_false, Bool.and_eq_true, Bool.or_eq_true, bne_iff_ne, beq_iff_eq, ne_eq]); (try simp only [rng, lo, hi, mnI, mxI, Int.toNat_natCast, Sg.n, Nat.mul_one, Nat.zero_add, Nat.add_zero, Nat.reduceAdd, List.getD_cons_zero, List.getD_cons_succ]))
    ((repeat' (first | (with_reducible apply And.intro) | intro _)); all_goals (first | exact trivial | (with_reducible assumption) | (show (_ : List Blk) = _; rfl) | (first | exact trivial | (with_reducible assumption) | omega | (split <;> omega) | (split <;> split <;> omega)) | skip); all_goals (try (refine ⟨rfl, (by first | exact Nat.le_refl _ | exact Nat.le_of_ble_eq_true rfl), rfl, rfl, ?_, (by repeat' (first | exact trivial | rfl | apply And.intro)), rfl, rfl⟩)))
    all_goals (try first | contradiction | omega)
    · rename_i h
      have : hasI rows v = true := any_yes (f := fun r => decide (r.getD 0 0 = v)) hlt (decide_eq_true h)
      rw [this]; exact rfl
    · rename_i h
      refine ⟨ih (i + 1) ⟨by omega, fun j hj => ?_⟩ (by omega) [] _ _ ⟨rfl, rfl, rfl, (by repeat' (first | exact trivial | rfl | apply And.intro)), (by repeat' (first | exact trivial | rfl | apply And.intro)), rfl, rfl, rfl⟩⟩
      by_cases hji : j = i
      · subst hji; exact decide_eq_false h
      · exact hno j (by omega)
  · obtain rfl : i = rows.length := by omega
    have : hasI rows v = false := any_take (f := fun r => decide (r.getD 0 0 = v)) hno
    rw [this]
    clear ih
    refine Goes.tree Γ_ok htb 1000 false false Try.func79 rfl ?_
    ((try simp only [decide_eq_true_eq, decide_eq_false_iff_not, Bool.not_eq_true', Bool.not_eq_false', Bool.not_true, Bool.not_false, Bool.and_eq_true, Bool.or_eq_true, bne_iff_ne, beq_iff_eq, ne_eq]); (try simp only [rng, lo, hi, mnI, mxI, Int.toNat_natCast, Sg.n, Nat.mul_one, Nat.zero_add, Nat.add_zero, Nat.reduceAdd, List.getD_cons_zero, List.getD_cons_succ]))
    ((repeat' (first | (with_reducible apply And.intro) | intro _)); all_goals (first | exact trivial | (with_reducible assumption) | (show (_ : List Blk) = _; rfl) | (first | exact trivial | (with_reducible assumption) | omega | (split <;> omega) | (split <;> split <;> omega)) | skip); all_goals (try (refine ⟨rfl, (by first | exact Nat.le_refl _ | exact Nat.le_of_ble_eq_true rfl), rfl, rfl, ?_, (by repeat' (first | exact trivial | rfl | apply And.intro)), rfl, rfl⟩)))
    all_goals (first | contradiction | exact rfl | trace_state)
set_option maxRecDepth 100000 in
theorem s_a2HasI : Sound Try.prog 36 hasIS := by
  intro args M r M' vs h hvs
  unfold hasIS at h
  split at h
  case h_2 => cases h
  rename_i rows v
  cases h
  refine SpecOK.assume fun hA hM => ?_
  have htb := (TbOk.cons s_l00HasI Try.func79 rfl rfl (TbOk.nil : TbOk Try.prog tb0))
  refine SpecOK.of_goes [] Try.func36 rfl ?_
  clear hA hM
  refine Goes.tree Γ_ok htb 1000 false false Try.func36 rfl ?_
  ((try simp only [decide_eq_true_eq, decide_eq_false_iff_not, Bool.not_eq_true', Bool.not_eq_false', Bool.not_true, Bool.not_false, Bool.and_eq_true, Bool.or_eq_true, bne_iff_ne, beq_iff_eq, ne_eq]); (try simp only [rng, lo, hi, mnI, mxI, Int.toNat_natCast, Sg.n, Nat.mul_one, Nat.zero_add, Nat.add_zero, Nat.reduceAdd, List.getD_cons_zero, List.getD_cons_succ]))
  ((repeat' (first | (with_reducible apply And.intro) | intro _)); all_goals (first | exact trivial | (with_reducible assumption) | (show (_ : List Blk) = _; rfl) | (first | exact trivial | (with_reducible assumption) | omega | (split <;> omega) | (split <;> split <;> omega)) | skip); all_goals (try (refine ⟨rfl, (by first | exact Nat.le_refl _ | exact Nat.le_of_ble_eq_true rfl), rfl, rfl, ?_, (by repeat' (first | exact trivial | rfl | apply And.intro)), rfl, rfl⟩)))
  all_goals (try first | exact sameA_refl _)
def isCRS : Fun
  | [.ag .pas p, .ag .spot s], [] => some (.b (isP p s), [], [])
  | _, _ => .none
set_option maxRecDepth 100000 in
theorem s_a2Is : Sound Try.prog 35 isCRS := by
  intro args M r M' vs h hvs
  unfold isCRS at h
  split at h
  case h_2 => cases h
  rename_i p s
  cases h
  refine SpecOK.assume fun hA hM => ?_
  have htb := (TbOk.cons s_l01Is Try.func78 rfl rfl (TbOk.nil : TbOk Try.prog tb0))
  refine SpecOK.of_goes [] Try.func35 rfl ?_
  clear hA hM
  refine Goes.tree Γ_ok htb 1000 false false Try.func35 rfl ?_
  ((try simp only [decide_eq_true_eq, decide_eq_false_iff_not, Bool.not_eq_true', Bool.not_eq_false', Bool.not_true, Bool.not_false, Bool.and_eq_true, Bool.or_eq_true, bne_iff_ne, beq_iff_eq, ne_eq]); (try simp only [rng, lo, hi, mnI, mxI, Int.toNat_natCast, Sg.n, Nat.mul_one, Nat.zero_add, Nat.add_zero, Nat.reduceAdd, List.getD_cons_zero, List.getD_cons_succ]))
  ((repeat' (first | (with_reducible apply And.intro) | intro _)); all_goals (first | exact trivial | (with_reducible assumption) | (show (_ : List Blk) = _; rfl) | (first | exact trivial | (with_reducible assumption) | omega | (split <;> omega) | (split <;> split <;> omega)) | skip); all_goals (try (refine ⟨rfl, (by first | exact Nat.le_refl _ | exact Nat.le_of_ble_eq_true rfl), rfl, rfl, ?_, (by repeat' (first | exact trivial | rfl | apply And.intro)), rfl, rfl⟩)))
  all_goals (try first | exact sameA_refl _)
end Go.Proofs.Ytgogccconmlkiaa

namespace Go.Proofs.Ytgogccconmlkiaa
open Go Go.Eng
set_option linter.unusedSimpArgs false
set_option linter.unusedVariables false
set_option maxRecDepth 100000
set_option maxHeartbeats 4000000

/-- What the law draws. -/
structure RdOk (P G : List Int) (a b c stay eats days : Int) : Prop where
  len : P.length = 122
  ok : okP P
  g : okG G
  a : 0 ≤ a ∧ a < (yL P (spots P)).length
  b : 0 ≤ b ∧ b < (yL P (spots P)).length
  c : 0 ≤ c ∧ c < (yL P (spots P)).length
  st : 1 ≤ stay ∧ stay ≤ 4
  ea : 0 ≤ eats ∧ eats ≤ 29
  dd : 0 ≤ days ∧ days ≤ 9
theorem rd_code {P G : List Int} {a b c stay eats days : Int} (h : RdOk P G a b c stay eats days) {s : Int} (hs : 1 ≤ s ∧ s ≤ 365) : rotC P G [[a], [b], [c]] s eats days = 0 := by
  have h1 := h.a
  have h2 := h.b
  have h3 := h.c
  have h4 := h.ea
  have h5 := h.dd
  have hb : badO P [[a], [b], [c]] = false := by
    unfold badO outO
    simp only [List.any_cons, List.any_nil, List.getD_cons_zero, Bool.or_false, Bool.or_eq_false_iff, Bool.not_eq_false', decide_eq_true_eq]
    omega
  have h0 : rotC0 P G [[a], [b], [c]].length s eats days = 0 := by
    unfold rotC0
    simp only [List.length_cons, List.length_nil]
    rw [if_pos ⟨h.ok, h.g⟩, if_pos (by omega), if_pos ⟨hs, by omega⟩, if_pos (by decide)]
  unfold rotC
  rw [if_pos h0, hb, if_neg (by decide)]
theorem rd_rt {P G : List Int} {a b c stay eats days : Int} (h : RdOk P G a b c stay eats days) : RtOk P G (yL P (spots P)) [[a], [b], [c]] stay eats days :=
  rot_ok h.len (rd_code h ⟨h.st.1, by have := h.st.2; omega⟩)
/-- The sums of a day: what has grown until then. -/
theorem rd_grew {P G : List Int} {rows : List (List Int)} {stay eats days : Int} (hl : P.length = 122) (hok : okP P) (h : RtOk P G (yL P (spots P)) rows stay eats days) : ∀ d, sumA P 10 ≤ sumA (rtK P G (yL P (spots P)) rows stay eats d).1 10 + sumI (rtK P G (yL P (spots P)) rows stay eats d).2 d := by
  intro d
  induction d with
  | zero => show sumA P 10 ≤ sumA P 10 + 0; omega
  | succ d ih =>
    have hD := rt_day hl hok h d
    have hs := hD.s
    have hn := hD.ns
    have hg := rt_get h (j := d) (d + 1) (by omega)
    have hl2 := (rtK_ok h d).2.2.1
    have hpre : ∀ i, i ≤ d → sumI (rtK P G (yL P (spots P)) rows stay eats (d + 1)).2 i = sumI (rtK P G (yL P (spots P)) rows stay eats d).2 i := by
      intro i
      induction i with
      | zero => intro _; rfl
      | succ i ihi =>
        intro hi2
        have := ihi (by omega)
        unfold sumI
        rw [this, rt_get h (j := i) (d + 1) (by omega), rt_get h (j := i) d (by omega)]
    unfold sumI
    rw [hpre d (Nat.le_refl _), hg, List.getD_cons_zero]
    have e : (rtK P G (yL P (spots P)) rows stay eats (d + 1)).1 = growP G (dyY (yL P (spots P)) rows stay d) (grzK (rtK P G (yL P (spots P)) rows stay eats d).1 (dyY (yL P (spots P)) rows stay d) eats (dyY (yL P (spots P)) rows stay d).length).1 := rfl
    rw [e]
    omega
theorem sum_pre {P G : List Int} {rows : List (List Int)} {stay eats days : Int} (h : RtOk P G (yL P (spots P)) rows stay eats days) (n : Nat) : ∀ i, i ≤ n → sumI (rtK P G (yL P (spots P)) rows stay eats n).2 i = sumI (rtK P G (yL P (spots P)) rows stay eats i).2 i := by
  have key : ∀ i, ∀ m k, i ≤ m → i ≤ k → sumI (rtK P G (yL P (spots P)) rows stay eats m).2 i = sumI (rtK P G (yL P (spots P)) rows stay eats k).2 i := by
    intro i
    induction i with
    | zero => intro m k _ _; rfl
    | succ i ih =>
      intro m k hm hk
      unfold sumI
      rw [ih m k (by omega) (by omega), rt_get h (j := i) m (by omega), rt_get h (j := i) k (by omega)]
  intro i hi2
  exact key i n i hi2 (Nat.le_refl _)
/-- The balance is nothing. -/
theorem rd_bal {P q : List Int} (hp : okP P) (hq : okP q) (h0 : q.getD 0 0 = P.getD 0 0) (h1 : q.getD 1 0 = P.getD 1 0) {g e : Int} (hg : 0 ≤ g ∧ g ≤ 1000000000) (he : 0 ≤ e ∧ e ≤ 1000000000) : balC P q g e 0 = 0 := by
  unfold balC inB
  rw [if_pos ⟨hp, hq⟩, if_pos ⟨h0.symm, h1.symm⟩, if_pos ⟨hg, he, by decide⟩]
/-- No stay is better than the best one. -/
theorem rd_best {P G : List Int} {a b c stay eats days : Int} (h : RdOk P G a b c stay eats days) :
    1 ≤ (bsK (eatA P G [[a], [b], [c]] eats days) 30).1 ∧ (bsK (eatA P G [[a], [b], [c]] eats days) 30).1 ≤ 30 ∧ sumI (rtK P G (yL P (spots P)) [[a], [b], [c]] stay eats days.toNat).2 days.toNat ≤ (bsK (eatA P G [[a], [b], [c]] eats days) 30).2 := by
  have hst := h.st
  have hr := rd_rt h
  have hb := bsK_ok (f := eatA P G [[a], [b], [c]] eats days) (b := 100000000) (fun s s1 s2 => (eat_ok (hr.stay (stay' := (s : Int)) ⟨by omega, by omega⟩)).2) 30 (by decide) (by decide)
  have hm := bsK_max (f := eatA P G [[a], [b], [c]] eats days) 30 stay.toNat (by omega) (by omega)
  have hl := (rtK_ok hr days.toNat).2.2.1
  refine ⟨hb.1, hb.2.1, ?_⟩
  unfold eatA at hm
  rw [Int.toNat_of_nonneg (by omega), hl] at hm
  exact hm
end Go.Proofs.Ytgogccconmlkiaa
