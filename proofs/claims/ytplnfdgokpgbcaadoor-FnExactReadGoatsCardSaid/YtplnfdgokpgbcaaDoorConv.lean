/- What the laws hand over they hand over as it is. -/
import Derived.Test.YtplnfdgokpgbcaaDoorTab
import Derived.Test.YtplnfdgokpgbcaaDoorEngF
namespace Go.Proofs.YtplnfdgokpgbcaaDoor
open Go Go.Eng
set_option linter.unusedSimpArgs false
set_option linter.unusedVariables false
theorem s_toInt16A10 : Sound Tryd.prog 91 (idS .row) := by
  intro args M r M' vs h hvs
  obtain ⟨xs, rfl, rfl, rfl, rfl⟩ := idS_inv h
  refine SpecOK.assume fun hA hM => ?_
  obtain ⟨hl, hc, -⟩ := hA
  replace hl : xs.length = 10 := hl
  have htb := (TbOk.nil : TbOk Tryd.prog tb0)
  refine SpecOK.of_goes [] Tryd.func91 rfl ?_
  refine Goes.run Γ_ok htb 100 false [] rfl trivial ?_
  refine Goes.loop0 (fun i : Nat => 10 - i) (fun i => i ≤ 10) (fun i => frOf 15 [(1, .pw 0 .row), (2, .pw 1 .row), (3, .pw 2 .row), (4, .i .i64 (i:Int))])
    (fun i => [.c .row xs, .c .row (List.replicate 10 0), .c .row (cpy xs (List.replicate 10 0) i)]) 0 (by omega) (by repeat' (first | exact trivial | rfl | apply And.intro)) (by repeat' (first | exact trivial | rfl | apply And.intro)) fun i hle ih => ?_
  by_cases hlt : i < 10
  · refine Goes.run Γ_ok htb 100 false [true] rfl ?_ ?_
    · refine ⟨decide_eq_true (by omega), by omega, by omega, ?_, trivial⟩
      simp only [rng, lo, hi]; omega
    refine ih (i+1) (by omega) (by omega) _ _ ?_ ?_
    · repeat' (first | exact trivial | rfl | apply And.intro)
    · clear ih; repeat' (first | exact trivial | rfl | apply And.intro)
      have := cpy_set xs (List.replicate 10 0) (k := i) (by omega) (by simpa using hlt)
      simp only [Int.toNat_natCast, Sg.n, Nat.mul_one, this]; rfl
  · have : i = 10 := by omega
    subst this
    refine Goes.run Γ_ok htb 100 false [false] rfl ⟨rfl, trivial⟩ ?_
    refine Goes.ret Γ_ok Tryd.func91 rfl rfl ?_
    clear ih
    refine ⟨rfl, Nat.le_refl _, rfl, rfl, ?_, trivial, rfl, rfl⟩
    rw [cpy_all xs _ (by omega) (by simp)]; exact sameA_refl _

theorem s_toInt16A10A10 : Sound Tryd.prog 59 (idS .grid) := by
  intro args M r M' vs h hvs
  obtain ⟨xs, rfl, rfl, rfl, rfl⟩ := idS_inv h
  refine SpecOK.assume fun hA hM => ?_
  obtain ⟨hl, hc, -⟩ := hA
  replace hl : xs.length = 100 := hl
  have htb := TbOk.cons s_toInt16A10 Tryd.func91 rfl rfl TbOk.nil
  refine SpecOK.of_goes [] Tryd.func59 rfl ?_
  refine Goes.run Γ_ok htb 100 false [] rfl trivial ?_
  refine Goes.loop0 (fun i : Nat => 10 - i) (fun i => i ≤ 10) (fun i => frOf 16 [(1, .pw 0 .grid), (2, .pw 1 .grid), (3, .pw 2 .grid), (4, .i .i64 (i:Int))])
    (fun i => [.c .grid xs, .c .grid (List.replicate 100 0), .c .grid (cpy xs (List.replicate 100 0) (10 * i))]) 0 (by omega) (by repeat' (first | exact trivial | rfl | apply And.intro)) (by repeat' (first | exact trivial | rfl | apply And.intro)) fun i hle ih => ?_
  by_cases hlt : i < 10
  · refine Goes.run Γ_ok htb 100 false [true] rfl ?_ ?_
    · refine ⟨decide_eq_true (by omega), by omega, by omega, ?_, trivial⟩
      simp only [rng, lo, hi]; omega
    refine ih (i+1) (by omega) (by omega) _ _ ?_ ?_
    · repeat' (first | exact trivial | rfl | apply And.intro)
    · clear ih; repeat' (first | exact trivial | rfl | apply And.intro)
      have := cpy_seg xs (List.replicate 100 0) (k := 10 * i) (n := 10) (by omega) (by simp; omega)
      simp only [Int.toNat_natCast, Sg.n, Nat.mul_comm i 10, this]; rfl
  · have : i = 10 := by omega
    subst this
    refine Goes.run Γ_ok htb 100 false [false] rfl ⟨rfl, trivial⟩ ?_
    refine Goes.ret Γ_ok Tryd.func59 rfl rfl ?_
    clear ih
    refine ⟨rfl, Nat.le_refl _, rfl, rfl, ?_, trivial, rfl, rfl⟩
    rw [cpy_all xs _ (by omega) (by simp)]; exact sameA_refl _

theorem s_toUint16A10 : Sound Tryd.prog 60 (idS .w10) := by
  intro args M r M' vs h hvs
  obtain ⟨xs, rfl, rfl, rfl, rfl⟩ := idS_inv h
  refine SpecOK.assume fun hA hM => ?_
  obtain ⟨hl, hc, -⟩ := hA
  replace hl : xs.length = 10 := hl
  have htb := (TbOk.nil : TbOk Tryd.prog tb0)
  refine SpecOK.of_goes [] Tryd.func60 rfl ?_
  refine Goes.run Γ_ok htb 100 false [] rfl trivial ?_
  refine Goes.loop0 (fun i : Nat => 10 - i) (fun i => i ≤ 10) (fun i => frOf 15 [(1, .pw 0 .w10), (2, .pw 1 .w10), (3, .pw 2 .w10), (4, .i .i64 (i:Int))])
    (fun i => [.c .w10 xs, .c .w10 (List.replicate 10 0), .c .w10 (cpy xs (List.replicate 10 0) i)]) 0 (by omega) (by repeat' (first | exact trivial | rfl | apply And.intro)) (by repeat' (first | exact trivial | rfl | apply And.intro)) fun i hle ih => ?_
  by_cases hlt : i < 10
  · refine Goes.run Γ_ok htb 100 false [true] rfl ?_ ?_
    · refine ⟨decide_eq_true (by omega), by omega, by omega, ?_, trivial⟩
      simp only [rng, lo, hi]; omega
    refine ih (i+1) (by omega) (by omega) _ _ ?_ ?_
    · repeat' (first | exact trivial | rfl | apply And.intro)
    · clear ih; repeat' (first | exact trivial | rfl | apply And.intro)
      have := cpy_set xs (List.replicate 10 0) (k := i) (by omega) (by simpa using hlt)
      simp only [Int.toNat_natCast, Sg.n, Nat.mul_one, this]; rfl
  · have : i = 10 := by omega
    subst this
    refine Goes.run Γ_ok htb 100 false [false] rfl ⟨rfl, trivial⟩ ?_
    refine Goes.ret Γ_ok Tryd.func60 rfl rfl ?_
    clear ih
    refine ⟨rfl, Nat.le_refl _, rfl, rfl, ?_, trivial, rfl, rfl⟩
    rw [cpy_all xs _ (by omega) (by simp)]; exact sameA_refl _

theorem s_toInt8A11 : Sound Tryd.prog 35 (idS .tab) := by
  intro args M r M' vs h hvs
  obtain ⟨xs, rfl, rfl, rfl, rfl⟩ := idS_inv h
  refine SpecOK.assume fun hA hM => ?_
  obtain ⟨hl, hc, -⟩ := hA
  replace hl : xs.length = 11 := hl
  have htb := (TbOk.nil : TbOk Tryd.prog tb0)
  refine SpecOK.of_goes [] Tryd.func35 rfl ?_
  refine Goes.run Γ_ok htb 100 false [] rfl trivial ?_
  refine Goes.loop0 (fun i : Nat => 11 - i) (fun i => i ≤ 11) (fun i => frOf 15 [(1, .pw 0 .tab), (2, .pw 1 .tab), (3, .pw 2 .tab), (4, .i .i64 (i:Int))])
    (fun i => [.c .tab xs, .c .tab (List.replicate 11 0), .c .tab (cpy xs (List.replicate 11 0) i)]) 0 (by omega) (by repeat' (first | exact trivial | rfl | apply And.intro)) (by repeat' (first | exact trivial | rfl | apply And.intro)) fun i hle ih => ?_
  by_cases hlt : i < 11
  · refine Goes.run Γ_ok htb 100 false [true] rfl ?_ ?_
    · refine ⟨decide_eq_true (by omega), by omega, by omega, ?_, trivial⟩
      simp only [rng, lo, hi]; omega
    refine ih (i+1) (by omega) (by omega) _ _ ?_ ?_
    · repeat' (first | exact trivial | rfl | apply And.intro)
    · clear ih; repeat' (first | exact trivial | rfl | apply And.intro)
      have := cpy_set xs (List.replicate 11 0) (k := i) (by omega) (by simpa using hlt)
      simp only [Int.toNat_natCast, Sg.n, Nat.mul_one, this]; rfl
  · have : i = 11 := by omega
    subst this
    refine Goes.run Γ_ok htb 100 false [false] rfl ⟨rfl, trivial⟩ ?_
    refine Goes.ret Γ_ok Tryd.func35 rfl rfl ?_
    clear ih
    refine ⟨rfl, Nat.le_refl _, rfl, rfl, ?_, trivial, rfl, rfl⟩
    rw [cpy_all xs _ (by omega) (by simp)]; exact sameA_refl _

set_option maxRecDepth 100000 in
theorem s_toPasture : Sound Tryd.prog 23 (idS .pas) := by
  intro args M r M' vs h hvs
  obtain ⟨xs, rfl, rfl, rfl, rfl⟩ := idS_inv h
  refine SpecOK.assume fun hA hM => ?_
  obtain ⟨hl, hc, -⟩ := hA
  replace hl : xs.length = 122 := hl
  have htb := TbOk.cons s_toInt16A10A10 Tryd.func59 rfl rfl (TbOk.cons s_toUint16A10 Tryd.func60 rfl rfl TbOk.nil)
  refine SpecOK.of_goes [] Tryd.func23 rfl ?_
  refine Goes.run Γ_ok htb 100 false [] rfl trivial ?_
  refine Goes.ret Γ_ok Tryd.func23 rfl rfl ?_
  refine ⟨rfl, Nat.le_refl _, rfl, rfl, ?_, trivial, rfl, rfl⟩
  have e0 := cpy_set xs (List.replicate 122 0) (k := 0) (by omega) (by simp)
  simp only [Nat.reduceAdd, cpy_zero] at e0
  have e1 := cpy_set xs (List.replicate 122 0) (k := 1) (by omega) (by simp)
  simp only [Nat.reduceAdd] at e1
  have e2 := cpy_seg xs (List.replicate 122 0) (k := 2) (n := 100) (by omega) (by simp)
  simp only [Nat.reduceAdd] at e2
  have e3 := cpy_seg xs (List.replicate 122 0) (k := 102) (n := 10) (by omega) (by simp)
  simp only [Nat.reduceAdd] at e3
  have e4 := cpy_seg xs (List.replicate 122 0) (k := 112) (n := 10) (by omega) (by simp)
  simp only [Nat.reduceAdd] at e4
  simp only [Sg.n, Nat.add_zero, Nat.reduceAdd, List.drop_zero, e0, e1, e2, e3, e4]
  rw [cpy_all xs _ (by omega) (by simp)]; exact sameA_refl _

set_option maxRecDepth 100000 in
theorem s_toGrowth : Sound Tryd.prog 10 (idS .gro) := by
  intro args M r M' vs h hvs
  obtain ⟨xs, rfl, rfl, rfl, rfl⟩ := idS_inv h
  refine SpecOK.assume fun hA hM => ?_
  obtain ⟨hl, hc, -⟩ := hA
  replace hl : xs.length = 12 := hl
  have htb := TbOk.cons s_toInt8A11 Tryd.func35 rfl rfl TbOk.nil
  refine SpecOK.of_goes [] Tryd.func10 rfl ?_
  refine Goes.run Γ_ok htb 100 false [] rfl trivial ?_
  refine Goes.ret Γ_ok Tryd.func10 rfl rfl ?_
  refine ⟨rfl, Nat.le_refl _, rfl, rfl, ?_, trivial, rfl, rfl⟩
  have e0 := cpy_seg xs (List.replicate 12 0) (k := 0) (n := 11) (by omega) (by simp)
  simp only [Nat.reduceAdd, cpy_zero, List.drop_zero] at e0
  have e1 := cpy_set xs (List.replicate 12 0) (k := 11) (by omega) (by simp)
  simp only [Nat.reduceAdd] at e1
  simp only [Sg.n, Nat.add_zero, Nat.reduceAdd, List.drop_zero, e0, e1]
  rw [cpy_all xs _ (by omega) (by simp)]; exact sameA_refl _

set_option maxRecDepth 100000 in
theorem s_toSpot : Sound Tryd.prog 84 (idS .spot) := by
  intro args M r M' vs h hvs
  obtain ⟨xs, rfl, rfl, rfl, rfl⟩ := idS_inv h
  refine SpecOK.assume fun hA hM => ?_
  obtain ⟨hl, hc, -⟩ := hA
  replace hl : xs.length = 2 := hl
  have htb := (TbOk.nil : TbOk Tryd.prog tb0)
  refine SpecOK.of_goes [] Tryd.func84 rfl ?_
  refine Goes.run Γ_ok htb 100 false [] rfl trivial ?_
  refine Goes.ret Γ_ok Tryd.func84 rfl rfl ?_
  refine ⟨rfl, Nat.le_refl _, rfl, rfl, ?_, trivial, rfl, rfl⟩
  have e0 := cpy_set xs (List.replicate 2 0) (k := 0) (by omega) (by simp)
  simp only [Nat.reduceAdd, cpy_zero] at e0
  have e1 := cpy_set xs (List.replicate 2 0) (k := 1) (by omega) (by simp)
  simp only [Nat.reduceAdd] at e1
  simp only [Sg.n, Nat.add_zero, Nat.reduceAdd, List.drop_zero, e0, e1]
  rw [cpy_all xs _ (by omega) (by simp)]; exact sameA_refl _

set_option maxRecDepth 100000 in
theorem s_toGoat : Sound Tryd.prog 41 (idS .goat) := by
  intro args M r M' vs h hvs
  obtain ⟨xs, rfl, rfl, rfl, rfl⟩ := idS_inv h
  refine SpecOK.assume fun hA hM => ?_
  obtain ⟨hl, hc, -⟩ := hA
  replace hl : xs.length = 7 := hl
  have htb := TbOk.cons s_toSpot Tryd.func84 rfl rfl TbOk.nil
  refine SpecOK.of_goes [] Tryd.func41 rfl ?_
  refine Goes.run Γ_ok htb 100 false [] rfl trivial ?_
  refine Goes.ret Γ_ok Tryd.func41 rfl rfl ?_
  refine ⟨rfl, Nat.le_refl _, rfl, rfl, ?_, trivial, rfl, rfl⟩
  have e0 := cpy_seg xs (List.replicate 7 0) (k := 0) (n := 2) (by omega) (by simp)
  simp only [Nat.reduceAdd, cpy_zero, List.drop_zero] at e0
  have e1 := cpy_seg xs (List.replicate 7 0) (k := 2) (n := 2) (by omega) (by simp)
  simp only [Nat.reduceAdd] at e1
  have e2 := cpy_set xs (List.replicate 7 0) (k := 4) (by omega) (by simp)
  simp only [Nat.reduceAdd] at e2
  have e3 := cpy_set xs (List.replicate 7 0) (k := 5) (by omega) (by simp)
  simp only [Nat.reduceAdd] at e3
  have e4 := cpy_set xs (List.replicate 7 0) (k := 6) (by omega) (by simp)
  simp only [Nat.reduceAdd] at e4
  simp only [Sg.n, Nat.add_zero, Nat.reduceAdd, List.drop_zero, e0, e1, e2, e3, e4]
  rw [cpy_all xs _ (by omega) (by simp)]; exact sameA_refl _

theorem s_toHurdle : Sound Tryd.prog 53 (idS .hur) := by
  intro args M r M' vs h hvs
  obtain ⟨xs, rfl, rfl, rfl, rfl⟩ := idS_inv h
  refine SpecOK.assume fun hA hM => ?_
  obtain ⟨hl, hc, -⟩ := hA
  have htb := (TbOk.cons s_toSpot Tryd.func84 rfl rfl (TbOk.nil : TbOk Tryd.prog tb0))
  refine SpecOK.of_goes [] Tryd.func53 rfl ?_
  refine Goes.run Γ_ok htb 100 false [] rfl trivial ?_
  refine Goes.ret Γ_ok Tryd.func53 rfl rfl ?_
  refine ⟨rfl, Nat.le_refl _, rfl, rfl, ?_, trivial, rfl, rfl⟩
  match xs, hl, hc with
  | [a, b, c], _, hc =>
    have h3 : c = 0 ∨ c = 1 := hc.2.2.1
    rcases h3 with rfl | rfl
    · exact sameA_refl _
    · exact sameA_refl _
end Go.Proofs.YtplnfdgokpgbcaaDoor
