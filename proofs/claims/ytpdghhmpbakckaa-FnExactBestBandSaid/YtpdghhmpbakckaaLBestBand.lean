/- The row BestBand: the spec and the program find the same best band of a growth. -/
import Derived.Test.YtpdghhmpbakckaaGrow2
namespace Go.Proofs.Ytpdghhmpbakckaa
open Go Go.Eng
set_option maxRecDepth 100000

theorem firstFrom_eq (p : Nat → Bool) : ∀ (n i k : Nat), i ≤ k → k < i + n → p k = true → (∀ j, i ≤ j → j < k → p j = false) → firstFrom p n i = k
  | 0, i, k, h1, h2, _, _ => by omega
  | n + 1, i, k, h1, h2, h3, h4 => by
    unfold firstFrom
    by_cases hi : i = k
    · subst hi; rw [if_pos h3]
    · rw [if_neg (by rw [h4 i (Nat.le_refl _) (by omega)]; simp)]
      exact firstFrom_eq p n (i + 1) k (by omega) (by omega) h3 fun j hj hk => h4 j (by omega) hk

def mxAt (xs : List Int) : Nat → Int
  | 0 => xs.getD 0 0
  | i + 1 => mxI (mxAt xs i) (xs.getD (i + 1) 0)

def bestAt (xs : List Int) : Nat → Nat
  | 0 => 0
  | i + 1 => if xs.getD (bestAt xs i) 0 < xs.getD (i + 1) 0 then i + 1 else bestAt xs i

theorem best_ok (xs : List Int) : ∀ i, bestAt xs i ≤ i ∧ xs.getD (bestAt xs i) 0 = mxAt xs i ∧ (∀ j, j ≤ i → xs.getD j 0 ≤ mxAt xs i) ∧ ∀ j, j < bestAt xs i → xs.getD j 0 < mxAt xs i
  | 0 => ⟨Nat.le_refl _, rfl, fun j hj => by obtain rfl : j = 0 := (by omega); exact Int.le_refl _, fun j hj => by simp [bestAt] at hj⟩
  | i + 1 => by
    obtain ⟨h1, h2, h3, h4⟩ := best_ok xs i
    simp only [bestAt, mxAt, mxI]
    rw [h2]
    by_cases h : mxAt xs i < xs.getD (i + 1) 0
    · rw [if_pos h, if_pos h]
      refine ⟨Nat.le_refl _, rfl, fun j hj => ?_, fun j hj => ?_⟩
      · by_cases hji : j = i + 1
        · rw [hji]; exact Int.le_refl _
        · have := h3 j (by omega); omega
      · have := h3 j (by omega); omega
    · rw [if_neg h, if_neg h]
      refine ⟨by omega, h2, fun j hj => ?_, h4⟩
      by_cases hji : j = i + 1
      · rw [hji]; omega
      · exact h3 j (by omega)

theorem best_first (xs : List Int) : firstFrom (fun j => decide (mxAt xs 10 = xs.getD j 0)) 11 0 = (bestAt xs 10 : Nat) := by
  obtain ⟨h1, h2, h3, h4⟩ := best_ok xs 10
  refine firstFrom_eq _ 11 0 _ (by omega) (by omega) (decide_eq_true h2.symm) fun j _ hj => decide_eq_false ?_
  have := h4 j hj
  omega

theorem mx_rng {xs : List Int} (h : ∀ j, j < 11 → -128 ≤ xs.getD j 0 ∧ xs.getD j 0 ≤ 127) : ∀ i, i < 11 → -128 ≤ mxAt xs i ∧ mxAt xs i ≤ 127
  | 0, hi => h 0 hi
  | i + 1, hi => by
    have h1 := mx_rng h i (by omega)
    have h2 := h (i + 1) hi
    simp only [mxAt, mxI]
    split <;> omega

def maxS : Fun
  | [.sl 0 0 11 .i8], [.c .gro xs] => some (.i .i8 (mxAt xs 10), [.c .gro xs], [])
  | _, _ => .none

theorem s_max : Sound Try.prog 56 maxS := by
  intro args M r M' vs h hvs
  unfold maxS at h
  split at h
  · rename_i xs
    cases h
    refine SpecOK.assume fun hA hM => ?_
    refine SpecOK.of_goes [0] Try.func56 rfl ?_
    refine Goes.run Γ_ok TbOk.nil 100 false [false] rfl (by simp only [allP, decide_eq_true_eq, decide_eq_false_iff_not, Bool.not_eq_true', Bool.not_eq_false', and_true] <;> (try simp only [rng, lo, hi, Int.toNat_natCast, Sg.n, Nat.mul_one, Nat.zero_add, Nat.add_zero]) <;> omega) ?_
    refine Goes.loop0 (fun i : Nat => 11 - i) (fun i => 1 ≤ i ∧ i ≤ 11) (fun i => frOf 25 [(0, .sl 0 0 11 .i8), (3, .i .i8 (mxAt xs (i - 1))), (4, .i .i64 (i:Int))])
      (fun i => [.c .gro xs]) 1 ⟨by omega, by omega⟩ (by repeat' (first | exact trivial | rfl | apply And.intro)) (by repeat' (first | exact trivial | rfl | apply And.intro)) fun i ⟨hle0, hle⟩ ih => ?_
    by_cases hlt : i < 11
    · refine Goes.run Γ_ok TbOk.nil 100 false [true] rfl (by simp only [allP, decide_eq_true_eq, decide_eq_false_iff_not, Bool.not_eq_true', Bool.not_eq_false', and_true] <;> (try simp only [rng, lo, hi, Int.toNat_natCast, Sg.n, Nat.mul_one, Nat.zero_add, Nat.add_zero]) <;> omega) ?_
      refine ih (i+1) ⟨by omega, by omega⟩ (by omega) _ _ ?_ (by repeat' (first | exact trivial | rfl | apply And.intro))
      repeat' (first | exact trivial | rfl | apply And.intro)
      obtain ⟨k, rfl⟩ : ∃ k, i = k + 1 := ⟨i - 1, by omega⟩
      simp only [Int.toNat_natCast, Sg.n, Nat.mul_one, Nat.zero_add, Nat.add_sub_cancel]
      rfl
    · obtain rfl : i = 11 := by omega
      refine Goes.run Γ_ok TbOk.nil 100 false [false] rfl (by simp only [allP, decide_eq_true_eq, decide_eq_false_iff_not, Bool.not_eq_true', Bool.not_eq_false', and_true] <;> (try simp only [rng, lo, hi, Int.toNat_natCast, Sg.n, Nat.mul_one, Nat.zero_add, Nat.add_zero]) <;> omega) ?_
      refine Goes.ret Γ_ok Try.func56 rfl rfl ?_
      exact ⟨rfl, Nat.le_refl _, rfl, rfl, sameA_refl _, ⟨rfl, trivial⟩, rfl, rfl⟩
  · cases h

def indexS : Fun
  | [.sl 0 0 11 .i8, .i .i8 m], [.c .gro xs] => some (.i .i64 (firstFrom (fun j => decide (m = xs.getD j 0)) 11 0), [.c .gro xs], [])
  | _, _ => .none

theorem s_index : Sound Try.prog 57 indexS := by
  intro args M r M' vs h hvs
  unfold indexS at h
  split at h
  · rename_i m xs
    cases h
    refine SpecOK.of_goes [0] Try.func57 rfl ?_
    refine Goes.run Γ_ok TbOk.nil 100 false [] rfl (by simp only [allP, decide_eq_true_eq, decide_eq_false_iff_not, Bool.not_eq_true', Bool.not_eq_false', and_true] <;> (try simp only [rng, lo, hi, Int.toNat_natCast, Sg.n, Nat.mul_one, Nat.zero_add, Nat.add_zero]) <;> omega) ?_
    generalize hp : (fun j => decide (m = xs.getD j 0)) = p
    refine Goes.loop0 (fun i : Nat => 11 - i) (fun i => i ≤ 11 ∧ firstFrom p 11 0 = firstFrom p (11 - i) i) (fun i => frOf 19 [(0, .sl 0 0 11 .i8), (1, .i .i8 m), (7, .i .i64 (11:Int)), (8, .i .i64 (i:Int))])
      (fun i => [.c .gro xs]) 0 ⟨by omega, rfl⟩ (by repeat' (first | exact trivial | rfl | apply And.intro)) (by repeat' (first | exact trivial | rfl | apply And.intro)) fun i ⟨hle, hres⟩ ih => ?_
    by_cases hlt : i < 11
    · have hstep : firstFrom p (11 - i) i = if p i then (i:Int) else firstFrom p (11 - (i + 1)) (i + 1) := by
        rw [show 11 - i = (11 - (i + 1)) + 1 from by omega]; rfl
      have hpi : p i = decide (m = xs.getD i 0) := by rw [← hp]
      by_cases hin : m = xs.getD i 0
      · rw [hpi, decide_eq_true hin] at hstep
        refine Goes.run Γ_ok TbOk.nil 100 false [true, true] rfl (by simp only [allP, decide_eq_true_eq, decide_eq_false_iff_not, Bool.not_eq_true', Bool.not_eq_false', and_true] <;> (try simp only [rng, lo, hi, Int.toNat_natCast, Sg.n, Nat.mul_one, Nat.zero_add, Nat.add_zero]) <;> omega) ?_
        refine Goes.ret Γ_ok Try.func57 rfl rfl ?_
        refine ⟨rfl, Nat.le_refl _, rfl, rfl, ?_, ⟨rfl, trivial⟩, rfl, rfl⟩
        rw [hres, hstep]
        exact ⟨rfl, rfl⟩
      · rw [hpi, decide_eq_false hin] at hstep
        refine Goes.run Γ_ok TbOk.nil 100 false [true, false] rfl (by simp only [allP, decide_eq_true_eq, decide_eq_false_iff_not, Bool.not_eq_true', Bool.not_eq_false', and_true] <;> (try simp only [rng, lo, hi, Int.toNat_natCast, Sg.n, Nat.mul_one, Nat.zero_add, Nat.add_zero]) <;> omega) ?_
        exact ih (i+1) ⟨by omega, by rw [hres, hstep]; rfl⟩ (by omega) _ _ (by repeat' (first | exact trivial | rfl | apply And.intro)) (by repeat' (first | exact trivial | rfl | apply And.intro))
    · refine Goes.run Γ_ok TbOk.nil 100 false [false] rfl (by simp only [allP, decide_eq_true_eq, decide_eq_false_iff_not, Bool.not_eq_true', Bool.not_eq_false', and_true] <;> (try simp only [rng, lo, hi, Int.toNat_natCast, Sg.n, Nat.mul_one, Nat.zero_add, Nat.add_zero]) <;> omega) ?_
      refine Goes.ret Γ_ok Try.func57 rfl rfl ?_
      refine ⟨rfl, Nat.le_refl _, rfl, rfl, ?_, ⟨rfl, trivial⟩, rfl, rfl⟩
      rw [hres, show 11 - i = 0 from by omega]
      exact ⟨rfl, rfl⟩
  · cases h

def bandS : Fun
  | [.ag .gro xs], [] => some (.t3 (.i .i64 (if okG xs then (bestAt xs 10 : Nat) else 0)) (.i .i64 (if okG xs then mxAt xs 10 else 0)) (.i .i64 (if okG xs then 0 else 1)), [], [])
  | _, _ => .none

theorem s_specBestBand : Sound Try.prog 25 bandS := by
  intro args M r M' vs h hvs
  unfold bandS at h
  split at h
  · rename_i xs
    cases h
    refine SpecOK.assume fun hA hM => ?_
    have hl : xs.length = 12 := hA.1
    have htab : ∀ j, j < 11 → -128 ≤ xs.getD j 0 ∧ xs.getD j 0 ≤ 127 := fun j hj => gro_tab (agg_ok (σ := .gro) rfl hl hA.2.1) hl hj
    have htb := TbOk.cons s_l04Ok Try.func49 rfl rfl TbOk.nil
    refine SpecOK.of_goes [] Try.func25 rfl ?_
    by_cases h1 : okG xs
    · refine Goes.run Γ_ok htb 100 false [false] rfl (by simp [allP, h1]) ?_
      refine Goes.loop0 (fun i : Nat => 11 - i) (fun i => 1 ≤ i ∧ i ≤ 11) (fun i => frOf 29 [(1, .pw 0 .gro), (5, .i .i64 ((bestAt xs (i - 1) : Nat) : Int)), (6, .i .i64 (i:Int))])
        (fun i => [.c .gro xs]) 1 ⟨by omega, by omega⟩ (by repeat' (first | exact trivial | rfl | apply And.intro)) (by repeat' (first | exact trivial | rfl | apply And.intro)) fun i ⟨hle0, hle⟩ ih => ?_
      obtain ⟨hb1, hb2, hb3, hb4⟩ := best_ok xs (i - 1)
      by_cases hlt : i < 11
      · obtain ⟨k, rfl⟩ : ∃ k, i = k + 1 := ⟨i - 1, by omega⟩
        simp only [Nat.add_sub_cancel] at hb1 hb2 hb3 hb4 ⊢
        by_cases h2 : xs.getD (bestAt xs k) 0 < xs.getD (k + 1) 0
        · refine Goes.run Γ_ok htb 100 false [true, true] rfl (by simp only [allP, decide_eq_true_eq, decide_eq_false_iff_not, Bool.not_eq_true', Bool.not_eq_false', and_true] <;> (try simp only [rng, lo, hi, Int.toNat_natCast, Sg.n, Nat.mul_one, Nat.zero_add, Nat.add_zero]) <;> omega) ?_
          refine ih (k+1+1) ⟨by omega, by omega⟩ (by omega) _ _ ?_ (by repeat' (first | exact trivial | rfl | apply And.intro))
          repeat' (first | exact trivial | rfl | apply And.intro)
          simp only [Nat.add_sub_cancel, bestAt, if_pos h2]
        · refine Goes.run Γ_ok htb 100 false [true, false] rfl (by simp only [allP, decide_eq_true_eq, decide_eq_false_iff_not, Bool.not_eq_true', Bool.not_eq_false', and_true] <;> (try simp only [rng, lo, hi, Int.toNat_natCast, Sg.n, Nat.mul_one, Nat.zero_add, Nat.add_zero]) <;> omega) ?_
          refine ih (k+1+1) ⟨by omega, by omega⟩ (by omega) _ _ ?_ (by repeat' (first | exact trivial | rfl | apply And.intro))
          repeat' (first | exact trivial | rfl | apply And.intro)
          simp only [Nat.add_sub_cancel, bestAt, if_neg h2]
      · obtain rfl : i = 11 := by omega
        have hmx : -128 ≤ mxAt xs (11 - 1) ∧ mxAt xs (11 - 1) ≤ 127 := mx_rng htab 10 (by omega)
        refine Goes.run Γ_ok htb 100 false [false] rfl (by simp only [allP, decide_eq_true_eq, decide_eq_false_iff_not, Bool.not_eq_true', Bool.not_eq_false', and_true] <;> (try simp only [rng, lo, hi, Int.toNat_natCast, Sg.n, Nat.mul_one, Nat.zero_add, Nat.add_zero]) <;> omega) ?_
        refine Goes.ret Γ_ok Try.func25 rfl rfl ?_
        refine ⟨rfl, Nat.le_refl _, rfl, rfl, ?_, trivial, rfl, rfl⟩
        clear ih
        rw [if_pos h1, if_pos h1, if_pos h1]
        refine ⟨⟨rfl, rfl⟩, ⟨rfl, ?_⟩, ⟨rfl, rfl⟩⟩
        simp only [Int.toNat_natCast, Sg.n, Nat.mul_one, Nat.zero_add]
        exact hb2.symm
    · refine Goes.run Γ_ok htb 100 false [true] rfl (by simp [allP, h1]) ?_
      refine Goes.ret Γ_ok Try.func25 rfl rfl ?_
      refine ⟨rfl, Nat.le_refl _, rfl, rfl, ?_, trivial, rfl, rfl⟩
      rw [if_neg h1, if_neg h1, if_neg h1]; exact sameA_refl _
  · cases h

theorem s_implBestBand : Sound Try.prog 26 bandS := by
  intro args M r M' vs h hvs
  unfold bandS at h
  split at h
  · rename_i xs
    cases h
    refine SpecOK.assume fun hA hM => ?_
    have hl : xs.length = 12 := hA.1
    have htab : ∀ j, j < 11 → -128 ≤ xs.getD j 0 ∧ xs.getD j 0 ≤ 127 := fun j hj => gro_tab (agg_ok (σ := .gro) rfl hl hA.2.1) hl hj
    have hmx := mx_rng htab 10 (by omega)
    have htb := TbOk.cons s_implValidGrowth Try.func20 rfl rfl (TbOk.cons s_max Try.func56 rfl rfl (TbOk.cons s_index Try.func57 rfl rfl TbOk.nil))
    refine SpecOK.of_goes [] Try.func26 rfl ?_
    by_cases h1 : okG xs
    · refine Goes.run Γ_ok htb 100 false [false] rfl ?_ ?_
      · simp only [allP, h1, decide_true, Bool.not_true, and_true, true_and, rng, lo, hi]; omega
      refine Goes.ret Γ_ok Try.func26 rfl rfl ?_
      refine ⟨rfl, Nat.le_refl _, rfl, rfl, ?_, trivial, rfl, rfl⟩
      rw [if_pos h1, if_pos h1, if_pos h1]
      exact ⟨⟨rfl, (best_first xs).symm⟩, ⟨rfl, rfl⟩, ⟨rfl, rfl⟩⟩
    · refine Goes.run Γ_ok htb 100 false [true] rfl (by simp [allP, h1]) ?_
      refine Goes.ret Γ_ok Try.func26 rfl rfl ?_
      refine ⟨rfl, Nat.le_refl _, rfl, rfl, ?_, trivial, rfl, rfl⟩
      rw [if_neg h1, if_neg h1, if_neg h1]; exact sameA_refl _
  · cases h

theorem l_ExactBestBand (xs : List Int) : SpecOK Try.prog 6 [.ag .gro xs] [] (.d true) [] := by
  refine SpecOK.of_goes [] Try.func6 rfl ?_
  have htb := TbOk.cons s_specBestBand Try.func25 rfl rfl (TbOk.cons s_implBestBand Try.func26 rfl rfl (TbOk.cons s_toGrowth Try.func19 rfl rfl TbOk.nil))
  refine Goes.run Γ_ok htb 100 false [false, false, false] rfl ?_ ?_
  · repeat' (first | exact trivial | rfl | apply And.intro)
    all_goals simp
  refine Goes.ret Γ_ok Try.func6 rfl rfl ?_
  exact ⟨rfl, Nat.le_refl _, rfl, rfl, rfl, trivial, rfl, rfl⟩
end Go.Proofs.Ytpdghhmpbakckaa
namespace Go.Proofs.Ytpdghhmpbakckaa.fnExactBestBand
open Go Go.Eng Go.ChangeShapes Go.WideShapes Go.ChangeAt Go.RowKit
theorem own : ownKnob Try.prog.godebug = none := by kernel_rfl
theorem laidOut : laidOutB Try.prog = true := by kernel_rfl
set_option maxRecDepth 100000 in
theorem lifted (os : Os) (started : os.Started) (H : Type) (enc : TypeId × Value → H) :
    ReturnsInHanded {} Try.checked os 6 .any (Rows.fnExactBestBandSpec.pre6 enc Try.prog Try.f6 Rows.fnExactBestBandRow.domain false) (Rows.fnExactBestBandSpec.post enc Try.prog Try.f6 false true false false) := by
  refine returnsInHanded_of_change_sized (C := Try.checked) own started (by kernel_rfl) Try.func6
    (ChangeSpec.witness6 (enc := enc) (C := Try.checked) false ⟨#[], #[zeroV .gro], []⟩ 8 (by kernel_rfl) (by kernel_rfl) (by kernel_rfl) (by kernel_rfl)) ?_
  intro W base args ds gs before hval0 hW hcnd hsz0 _
  have hval : ∀ (j : Nat) t v, Try.f6.params[j]? = some t → args[j]? = some v → Value.okWide Try.prog W .any base t v := hval0
  have hW' := hW
  obtain ⟨p, q, hA0, hV, rfl, hfz, hnd⟩ := hW
  have hA : DataW.TrodAll enc Try.prog W 0 (fun _ => true) true Try.f6.params.toList args.toList ds p := hA0
  rw [Try.params6] at hA hval
  obtain ⟨v0, vs0, d0, ds0, p0, q0, hargs, rfl, rfl, h0, r0⟩ := trodAll_cons hA
  obtain ⟨rfl, rfl, rfl⟩ := trodAll_nil r0
  obtain rfl : args = #[v0] := by cases args; simp_all
  obtain ⟨rfl, rfl⟩ := trodVars_none hV
  obtain ⟨x0, e0, z0, l0, c0⟩ := open_agg Γ_ok (σ := .gro) rfl rfl (by decide) rfl (hval 0 _ v0 rfl rfl) h0
  subst z0
  clear hA0 hval0 hsz0
  refine (l_ExactBestBand x0 (fun _ => ⟨0, 0, 0, .none, 0⟩) [v0] W ⟨⟨e0, l0, c0, rfl⟩, trivial⟩ mrel_nil (fun x hx i hi => (by simp at hx; subst hx; cases hi))).mono fun e W' ⟨v, ρ', he, hv, hAft, _⟩ => ?_
  subst he
  obtain rfl : v = .bool true := hv
  have bel := hAft.below
  have t0 := Below.trod laidOut (by kernel_rfl) (by decide +kernel) h0 bel (fun x hx => (by cases hx))
  exact ⟨_, rfl, _, _, _, [], _, [], hW', trodAll_mk1 (shut_bool Try.underlying4 _), (trodAll_cons_mk t0 trodAll_mk0), rfl, bel.frame _, fun h => (by cases h)⟩
theorem over : Rows.fnExactBestBandRow.holds Try.pinned (OpenSpec.ofChange Rows.fnExactBestBandSpec) :=
  OpenClaim.holds_of_wide 6 Try.f6 rfl rfl rfl rfl rfl rfl rfl ⟨rfl, rfl, rfl, rfl, rfl⟩ rfl rfl rfl rfl rfl (by kernel_rfl) Try.func6 (by kernel_rfl)
    (of_decide_eq_true (by kernel_rfl)) (by unfold Func.isWrapper; first | (rw [if_pos (by decide +kernel)]; kernel_rfl) | (rw [if_neg (by decide +kernel)]; exact ⟨rfl, rfl⟩))
    (fun os started H enc _ => lifted os started H enc)
end Go.Proofs.Ytpdghhmpbakckaa.fnExactBestBand
namespace Go.Proofs.Ytpdghhmpbakckaa
theorem fnExactBestBand_holds : Rows.FnExactBestBandSaid := fnExactBestBand.over
#print axioms fnExactBestBand_holds
end Go.Proofs.Ytpdghhmpbakckaa

