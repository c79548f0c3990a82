/- The best two mowings: the spec and the program choose the same two days. -/
import Derived.Test.YtgogccconmlkiaaTwo
namespace Go.Proofs.Ytgogccconmlkiaa
open Go Go.Eng
set_option linter.unusedSimpArgs false
set_option linter.unusedVariables false
set_option maxRecDepth 100000
set_option maxHeartbeats 4000000

noncomputable def twR (p g s : List Int) (d l : Int) : Option (Int × Int × Int) := twO p g (yardR p s) l d.toNat d.toNat
noncomputable def twA (p g s : List Int) (d l : Int) : Int := if twC p g s d l = 0 then imA (twR p g s d l) else 0
noncomputable def twB (p g s : List Int) (d l : Int) : Int := if twC p g s d l = 0 then imB (twR p g s d l) else 0
noncomputable def twM (p g s : List Int) (d l : Int) : Int := if twC p g s d l = 0 then imM (twR p g s d l) else 0
noncomputable def twS : Fun
  | [.ag .pas p, .ag .gro g, .ag .spot s, .i .i64 d, .i .i64 l], [] => some (.t4 (.i .i64 (twA p g s d l)) (.i .i64 (twB p g s d l)) (.i .i64 (twM p g s d l)) (.i .i64 (twC p g s d l)), [], [])
  | _, _ => .none
theorem sameA_i4 {k k' k'' k3 : IntKind} {a b c d e f x y : Int} (h : a = b) (h' : c = d) (h'' : e = f) (h3 : x = y) : sameA (.t4 (.i k'' a) (.i k c) (.i k' e) (.i k3 x)) (.t4 (.i k'' b) (.i k d) (.i k' f) (.i k3 y)) := by subst h; subst h'; subst h''; subst h3; exact sameA_refl _

set_option maxRecDepth 100000 in
theorem s_specBestTwo : Sound Try.prog 51 twS := by
  intro args M r M' vs h hvs
  unfold twS at h
  split at h
  case h_2 => cases h
  rename_i p g s d l
  cases h
  refine SpecOK.assume fun hA hM => ?_
  have htb := (TbOk.cons s_l04Mowed Try.func103 rfl rfl (TbOk.cons s_l01Yard Try.func96 rfl rfl (TbOk.cons s_l04Mow Try.func95 rfl rfl (TbOk.cons s_l04GrowN Try.func104 rfl rfl (TbOk.nil : TbOk Try.prog tb0)))))
  refine SpecOK.of_goes [] Try.func51 rfl ?_
  have hlen : p.length = 122 := hA.1
  have hok := fun h => hay_facts (p := p) (g := g) (s := s) (d := d) (l := l) hlen h
  have hc : twC p g s d l = if hayC p g s d l = 0 then (if 60 < d then 3 else if d = 0 then 6 else 0) else hayC p g s d l := rfl
  clear hA hM
  by_cases h0 : hayC p g s d l = 0
  · rw [if_pos h0] at hc
    by_cases h1 : 60 < d
    · rw [if_pos h1] at hc
      refine Goes.tree Γ_ok htb 1000 false false Try.func51 rfl ?_
      ((try simp only [decide_eq_true_eq, decide_eq_false_iff_not, Bool.not_eq_true', Bool.not_eq_false', Bool.not_true, Bool.not_false, Bool.and_eq_true, Bool.or_eq_true, bne_iff_ne, beq_iff_eq, ne_eq]); (try simp only [rng, lo, hi, mnI, mxI, Int.toNat_natCast, Sg.n, Nat.mul_one, Nat.zero_add, Nat.add_zero, Nat.reduceAdd, List.getD_cons_zero, List.getD_cons_succ, h0]))
      ((repeat' (first | (with_reducible apply And.intro) | intro _)); all_goals (first | exact trivial | (with_reducible assumption) | (show (_ : List Blk) = _; rfl) | (first | exact trivial | (with_reducible assumption) | omega | (split <;> omega) | (split <;> split <;> omega)) | skip); all_goals (try (refine ⟨rfl, (by first | exact Nat.le_refl _ | exact Nat.le_of_ble_eq_true rfl), rfl, rfl, ?_, (by repeat' (first | exact trivial | rfl | apply And.intro)), rfl, rfl⟩)))
      all_goals (first | exact absurd rfl (by assumption) | contradiction | omega | skip)
      all_goals (refine sameA_i4 ?_ ?_ ?_ hc <;> simp only [twA, twB, twM, hc] <;> rfl)
    · rw [if_neg h1] at hc
      by_cases h2 : d = 0
      · rw [if_pos h2] at hc
        refine Goes.tree Γ_ok htb 1000 false false Try.func51 rfl ?_
        ((try simp only [decide_eq_true_eq, decide_eq_false_iff_not, Bool.not_eq_true', Bool.not_eq_false', Bool.not_true, Bool.not_false, Bool.and_eq_true, Bool.or_eq_true, bne_iff_ne, beq_iff_eq, ne_eq]); (try simp only [rng, lo, hi, mnI, mxI, Int.toNat_natCast, Sg.n, Nat.mul_one, Nat.zero_add, Nat.add_zero, Nat.reduceAdd, List.getD_cons_zero, List.getD_cons_succ, h0]))
        ((repeat' (first | (with_reducible apply And.intro) | intro _)); all_goals (first | exact trivial | (with_reducible assumption) | (show (_ : List Blk) = _; rfl) | (first | exact trivial | (with_reducible assumption) | omega | (split <;> omega) | (split <;> split <;> omega)) | skip); all_goals (try (refine ⟨rfl, (by first | exact Nat.le_refl _ | exact Nat.le_of_ble_eq_true rfl), rfl, rfl, ?_, (by repeat' (first | exact trivial | rfl | apply And.intro)), rfl, rfl⟩)))
        all_goals (first | exact absurd rfl (by assumption) | contradiction | omega | skip)
        all_goals (refine sameA_i4 ?_ ?_ ?_ hc <;> simp only [twA, twB, twM, hc] <;> rfl)
      · rw [if_neg h2] at hc
        have hp := (hok h0).2.2
        have hm : ∀ i, mowOk (growN g p i) (yardR p s) l ∧ growOk (growN g p i) g [] := fun i => by
          obtain ⟨a1, a2, a3, a4, a5, a6, a7, a8, a9⟩ := hp
          exact (⟨⟨(growN_ok a3 a1 a2 _).1, fun r hr => (a4 r hr).1, a8, a9, by omega⟩, (growN_ok a3 a1 a2 _).1, (growN_ok a3 a1 a2 _).2, a3, cellsR_nil, by simp⟩)
        have hm2 : ∀ a i, mowOk (growN g (mownP p g (yardR p s) l a) i) (yardR p s) l ∧ growOk (growN g (mownP p g (yardR p s) l a) i) g [] := fun a i => by
          obtain ⟨b1, b2⟩ := mown_ok hp a
          obtain ⟨a1, a2, a3, a4, a5, a6, a7, a8, a9⟩ := hp
          exact (⟨⟨(growN_ok a3 b1 b2 _).1, fun r hr => (a4 r hr).1, a8, a9, by omega⟩, (growN_ok a3 b1 b2 _).1, (growN_ok a3 b1 b2 _).2, a3, cellsR_nil, by simp⟩)
        have hO := twO_ok hp d.toNat
        have hI := fun st (h : okT st) a k => (twI_ok hp (st := st) h a k).1
        have hrg := two_rng hp
        have hd : 0 ≤ d ∧ d ≤ 365 := by unfold hayOk at hp; omega
        have hdp := (hok h0).1
        have hsp := (hok h0).2.1
        clear hok
        have hA : twA p g s d l = imA (twR p g s d l) := if_pos hc
        have hB : twB p g s d l = imB (twR p g s d l) := if_pos hc
        have hM : twM p g s d l = imM (twR p g s d l) := if_pos hc
        rw [hA, hB, hM, hc]
        unfold twR
        clear hA hB hM
        refine Goes.tree Γ_ok htb 1000 false false Try.func51 rfl ?_
        ((try simp only [decide_eq_true_eq, decide_eq_false_iff_not, Bool.not_eq_true', Bool.not_eq_false', Bool.not_true, Bool.not_false, Bool.and_eq_true, Bool.or_eq_true, bne_iff_ne, beq_iff_eq, ne_eq]); (try simp only [rng, lo, hi, mnI, mxI, Int.toNat_natCast, Sg.n, Nat.mul_one, Nat.zero_add, Nat.add_zero, Nat.reduceAdd, List.getD_cons_zero, List.getD_cons_succ, h0]))
        ((repeat' (first | (with_reducible apply And.intro) | intro _)); all_goals (first | exact trivial | (with_reducible assumption) | (show (_ : List Blk) = _; rfl) | (first | exact trivial | (with_reducible assumption) | omega | (split <;> omega) | (split <;> split <;> omega)) | skip); all_goals (try (refine ⟨rfl, (by first | exact Nat.le_refl _ | exact Nat.le_of_ble_eq_true rfl), rfl, rfl, ?_, (by repeat' (first | exact trivial | rfl | apply And.intro)), rfl, rfl⟩)))
        all_goals (try first | exact absurd rfl (by assumption) | contradiction | exact hdp | exact hsp | omega)
        generalize yardR p s = Y at *
        refine ⟨?_⟩
        refine Goes.loopR (fun a : Nat => d.toNat - a) (fun a => a ≤ d.toNat) (fun a => (.any :: .any :: .any :: .i .i64 d :: .i .i64 l :: .any :: .pw 0 .gro :: .any :: .any :: .any :: .any :: .any :: .any :: .any :: .any :: .fs .spot Y :: .i .i64 (spA (twO p g Y l d.toNat a)) :: .i .i64 (spB (twO p g Y l d.toNat a)) :: .i .i64 (spM (twO p g Y l d.toNat a)) :: .pw 1 .pas :: .i .i64 (a:Int) :: .any :: .any :: .any :: .any :: .any :: .any :: .any :: .any :: .any :: .any :: .any :: .any :: .any :: .any :: .any :: .any :: .any :: .any :: .any :: .any :: .any :: .any :: .any :: .any :: .any :: .any :: .any :: .any :: .any :: .any :: .any :: .any :: .any :: .any :: .any :: .any :: .any :: .any :: .any :: .any :: .any :: .any :: .any :: .any :: .any :: .any :: .any :: .any :: .any :: .any :: .any :: .any :: .any :: .any :: .any :: .any :: .any :: .any :: .any :: .any :: .any :: .any :: .any :: .any :: .any :: .any :: .any :: .any :: .any :: .any :: .any :: .any :: .any :: .any :: []))
          (fun a => [.c .gro g, .c .pas (growN g p a)]) 0 [1, 3] (Nat.zero_le _) ⟨rfl, rfl, rfl, (by repeat' (first | exact trivial | rfl | apply And.intro)), (by repeat' (first | exact trivial | rfl | apply And.intro)), rfl, rfl, rfl⟩ fun a hle ih => ?_
        obtain ⟨o1, o2⟩ := hO a hle
        obtain ⟨k1, k2⟩ := hm a
        by_cases hlt : (a : Int) < d
        · have ih' := ih (a + 1)
          have e1 : twO p g Y l d.toNat (a + 1) = twI p g Y l (twO p g Y l d.toNat a) a (d.toNat - a) := rfl
          rw [e1] at ih'
          clear ih e1
          generalize twO p g Y l d.toNat a = st at *
          refine Goes.tree Γ_ok htb 1000 false false Try.func51 rfl ?_
          ((try simp only [decide_eq_true_eq, decide_eq_false_iff_not, Bool.not_eq_true', Bool.not_eq_false', Bool.not_true, Bool.not_false, Bool.and_eq_true, Bool.or_eq_true, bne_iff_ne, beq_iff_eq, ne_eq]); (try simp only [rng, lo, hi, mnI, mxI, Int.toNat_natCast, Sg.n, Nat.mul_one, Nat.zero_add, Nat.add_zero, Nat.reduceAdd, List.getD_cons_zero, List.getD_cons_succ]))
          ((repeat' (first | (with_reducible apply And.intro) | intro _)); all_goals (first | exact trivial | (with_reducible assumption) | (show (_ : List Blk) = _; rfl) | (first | exact trivial | (with_reducible assumption) | omega | (split <;> omega) | (split <;> split <;> omega)) | skip); all_goals (try (refine ⟨rfl, (by first | exact Nat.le_refl _ | exact Nat.le_of_ble_eq_true rfl), rfl, rfl, ?_, (by repeat' (first | exact trivial | rfl | apply And.intro)), rfl, rfl⟩)))
          all_goals (try first | exact k1 | exact k2)
          refine ⟨?_⟩
          refine Goes.loopR (fun k : Nat => d.toNat - a - k) (fun k => k ≤ d.toNat - a) (fun k => (.any :: .any :: .any :: .i .i64 d :: .i .i64 l :: .any :: .pw 0 .gro :: .any :: .any :: .any :: .any :: .any :: .any :: .any :: .any :: .fs .spot Y :: .i .i64 (spA (twI p g Y l st a k)) :: .i .i64 (spB (twI p g Y l st a k)) :: .i .i64 (spM (twI p g Y l st a k)) :: .pw 1 .pas :: .i .i64 (a:Int) :: .pw 2 .pas :: .i .i64 (hayAt p g Y l a) :: .i .i64 ((a:Int) + 1 + k) :: .any :: .any :: .any :: .any :: .any :: .any :: .any :: .any :: .any :: .any :: .any :: .any :: .any :: .any :: .any :: .any :: .any :: .any :: .any :: .any :: .any :: .any :: .any :: .any :: .any :: .any :: .any :: .any :: .any :: .any :: .any :: .any :: .any :: .any :: .any :: .any :: .any :: .any :: .any :: .any :: .any :: .any :: .any :: .any :: .any :: .any :: .any :: .any :: .any :: .any :: .any :: .any :: .any :: .any :: .any :: .any :: .any :: .any :: .any :: .any :: .any :: .any :: .any :: .any :: .any :: .any :: .any :: .any :: .any :: .any :: .any :: []))
            (fun k => [.c .gro g, .c .pas (growN g p a), .c .pas (growN g (mownP p g Y l a) k)]) 0 [0, 1, 2] (Nat.zero_le _) ⟨rfl, rfl, rfl, (by repeat' (first | exact trivial | rfl | exact Int.add_zero _ | exact (Int.add_zero _).symm | apply And.intro)), (by repeat' (first | exact trivial | rfl | apply And.intro)), rfl, rfl, rfl⟩ fun k hk ihk => ?_
          obtain ⟨m1, m2⟩ := hm2 a k
          have m3 := (hm2 a (k + 1)).1
          have i1 := hI st o1 a k
          obtain ⟨⟨r1, r2⟩, r3, r4⟩ := hrg a (k + 1)
          by_cases hkl : (a : Int) + 1 + k ≤ d
          · have ihk' := ihk (k + 1)
            have e2 : twI p g Y l st a (k + 1) = updT (twI p g Y l st a k) a ((a : Int) + 1 + k) (hayAt p g Y l a + hayAt (mownP p g Y l a) g Y l (k + 1)) := rfl
            rw [e2] at ihk'
            clear ihk e2 ih'
            generalize twI p g Y l st a k = sk at *
            obtain ⟨u1, u2, u3⟩ := updT_sp (a := a) (b := (a : Int) + 1 + k) (v := hayAt p g Y l a + hayAt (mownP p g Y l a) g Y l (k + 1)) i1
            have hh : (mowK (growP g [] (growN g (mownP p g Y l a) k)) Y l Y.length).2.tdiv 4 = hayAt (mownP p g Y l a) g Y l (k + 1) := rfl
            refine Goes.tree Γ_ok htb 1000 false false Try.func51 rfl ?_
            ((try simp only [decide_eq_true_eq, decide_eq_false_iff_not, Bool.not_eq_true', Bool.not_eq_false', Bool.not_true, Bool.not_false, Bool.and_eq_true, Bool.or_eq_true, bne_iff_ne, beq_iff_eq, ne_eq]); (try simp only [rng, lo, hi, mnI, mxI, Int.toNat_natCast, Sg.n, Nat.mul_one, Nat.zero_add, Nat.add_zero, Nat.reduceAdd, List.getD_cons_zero, List.getD_cons_succ, hh]))
            ((repeat' (first | (with_reducible apply And.intro) | intro _)); all_goals (first | exact trivial | (with_reducible assumption) | (show (_ : List Blk) = _; rfl) | (first | exact trivial | (with_reducible assumption) | omega | (split <;> omega) | (split <;> split <;> omega)) | skip); all_goals (try (refine ⟨rfl, (by first | exact Nat.le_refl _ | exact Nat.le_of_ble_eq_true rfl), rfl, rfl, ?_, (by repeat' (first | exact trivial | rfl | apply And.intro)), rfl, rfl⟩)))
            all_goals (try first | exact m1 | exact m2 | exact m3 | omega)
            · refine ⟨ihk' (by omega) (by omega) [0, 1, 2] _ _ ?_⟩
              rw [u1 (by assumption)]
              exact ⟨rfl, rfl, rfl, (by repeat' (first | exact trivial | rfl | apply And.intro)), (by repeat' (first | exact trivial | rfl | apply And.intro)), rfl, rfl, rfl⟩
            · refine ⟨ihk' (by omega) (by omega) [0, 1, 2] _ _ ?_⟩
              rw [u2 (by assumption) (by assumption)]
              exact ⟨rfl, rfl, rfl, (by repeat' (first | exact trivial | rfl | apply And.intro)), (by repeat' (first | exact trivial | rfl | apply And.intro)), rfl, rfl, rfl⟩
            · refine ⟨ihk' (by omega) (by omega) [0, 1, 2] _ _ ?_⟩
              rw [u3 (by assumption) (by assumption)]
              exact ⟨rfl, rfl, rfl, (by repeat' (first | exact trivial | rfl | apply And.intro)), (by repeat' (first | exact trivial | rfl | apply And.intro)), rfl, rfl, rfl⟩
          · obtain rfl : k = d.toNat - a := by omega
            clear ihk
            refine Goes.tree Γ_ok htb 1000 false false Try.func51 rfl ?_
            ((try simp only [decide_eq_true_eq, decide_eq_false_iff_not, Bool.not_eq_true', Bool.not_eq_false', Bool.not_true, Bool.not_false, Bool.and_eq_true, Bool.or_eq_true, bne_iff_ne, beq_iff_eq, ne_eq]); (try simp only [rng, lo, hi, mnI, mxI, Int.toNat_natCast, Sg.n, Nat.mul_one, Nat.zero_add, Nat.add_zero, Nat.reduceAdd, List.getD_cons_zero, List.getD_cons_succ]))
            ((repeat' (first | (with_reducible apply And.intro) | intro _)); all_goals (first | exact trivial | (with_reducible assumption) | (show (_ : List Blk) = _; rfl) | (first | exact trivial | (with_reducible assumption) | omega | (split <;> omega) | (split <;> split <;> omega)) | skip); all_goals (try (refine ⟨rfl, (by first | exact Nat.le_refl _ | exact Nat.le_of_ble_eq_true rfl), rfl, rfl, ?_, (by repeat' (first | exact trivial | rfl | apply And.intro)), rfl, rfl⟩)))
            all_goals (try first | exact k2 | contradiction)
            exact ⟨ih' (by omega) (by omega) [0, 1] _ _ ⟨rfl, rfl, rfl, (by repeat' (first | exact trivial | rfl | apply And.intro)), (by repeat' (first | exact trivial | rfl | apply And.intro)), rfl, rfl, rfl⟩⟩
        · obtain rfl : a = d.toNat := by omega
          obtain ⟨w1, w2, w3⟩ := two_same (o2 (by omega))
          clear ih
          rw [← w1, ← w2, ← w3]
          refine Goes.tree Γ_ok htb 1000 false false Try.func51 rfl ?_
          ((try simp only [decide_eq_true_eq, decide_eq_false_iff_not, Bool.not_eq_true', Bool.not_eq_false', Bool.not_true, Bool.not_false, Bool.and_eq_true, Bool.or_eq_true, bne_iff_ne, beq_iff_eq, ne_eq]); (try simp only [rng, lo, hi, mnI, mxI, Int.toNat_natCast, Sg.n, Nat.mul_one, Nat.zero_add, Nat.add_zero, Nat.reduceAdd, List.getD_cons_zero, List.getD_cons_succ]))
          ((repeat' (first | (with_reducible apply And.intro) | intro _)); all_goals (first | exact trivial | (with_reducible assumption) | (show (_ : List Blk) = _; rfl) | (first | exact trivial | (with_reducible assumption) | omega | (split <;> omega) | (split <;> split <;> omega)) | skip); all_goals (try (refine ⟨rfl, (by first | exact Nat.le_refl _ | exact Nat.le_of_ble_eq_true rfl), rfl, rfl, ?_, (by repeat' (first | exact trivial | rfl | apply And.intro)), rfl, rfl⟩)))
          all_goals (first | contradiction | exact sameA_refl _ | trace_state)
  · rw [if_neg h0] at hc
    refine Goes.tree Γ_ok htb 1000 false false Try.func51 rfl ?_
    ((try simp only [decide_eq_true_eq, decide_eq_false_iff_not, Bool.not_eq_true', Bool.not_eq_false', Bool.not_true, Bool.not_false, Bool.and_eq_true, Bool.or_eq_true, bne_iff_ne, beq_iff_eq, ne_eq]); (try simp only [rng, lo, hi, mnI, mxI, Int.toNat_natCast, Sg.n, Nat.mul_one, Nat.zero_add, Nat.add_zero, Nat.reduceAdd, List.getD_cons_zero, List.getD_cons_succ]))
    ((repeat' (first | (with_reducible apply And.intro) | intro _)); all_goals (first | exact trivial | (with_reducible assumption) | (show (_ : List Blk) = _; rfl) | (first | exact trivial | (with_reducible assumption) | omega | (split <;> omega) | (split <;> split <;> omega)) | skip); all_goals (try (refine ⟨rfl, (by first | exact Nat.le_refl _ | exact Nat.le_of_ble_eq_true rfl), rfl, rfl, ?_, (by repeat' (first | exact trivial | rfl | apply And.intro)), rfl, rfl⟩)))
    all_goals (first | exact absurd rfl (by assumption) | contradiction | omega | skip)
    all_goals (refine sameA_i4 ?_ ?_ ?_ hc <;> simp only [twA, twB, twM, hc, if_neg h0] <;> rfl)

set_option maxRecDepth 100000 in
theorem s_implBestTwo : Sound Try.prog 50 twS := by
  intro args M r M' vs h hvs
  unfold twS at h
  split at h
  case h_2 => cases h
  rename_i p g s d l
  cases h
  refine SpecOK.assume fun hA hM => ?_
  have htb := (TbOk.cons s_hayCode Try.func99 rfl rfl (TbOk.cons s_yardZ Try.func85 rfl rfl (TbOk.cons s_mow Try.func93 rfl rfl (TbOk.cons s_hays Try.func100 rfl rfl (TbOk.cons s_growN Try.func105 rfl rfl (TbOk.nil : TbOk Try.prog tb0))))))
  refine SpecOK.of_goes [] Try.func50 rfl ?_
  have hlen : p.length = 122 := hA.1
  have hok := fun h => hay_facts (p := p) (g := g) (s := s) (d := d) (l := l) hlen h
  have hc : twC p g s d l = if hayC p g s d l = 0 then (if 60 < d then 3 else if d = 0 then 6 else 0) else hayC p g s d l := rfl
  clear hA hM
  by_cases h0 : hayC p g s d l = 0
  · rw [if_pos h0] at hc
    by_cases h1 : 60 < d
    · rw [if_pos h1] at hc
      refine Goes.tree Γ_ok htb 1000 false false Try.func50 rfl ?_
      ((try simp only [decide_eq_true_eq, decide_eq_false_iff_not, Bool.not_eq_true', Bool.not_eq_false', Bool.not_true, Bool.not_false, Bool.and_eq_true, Bool.or_eq_true, bne_iff_ne, beq_iff_eq, ne_eq]); (try simp only [rng, lo, hi, mnI, mxI, Int.toNat_natCast, Sg.n, Nat.mul_one, Nat.zero_add, Nat.add_zero, Nat.reduceAdd, List.getD_cons_zero, List.getD_cons_succ, h0]))
      ((repeat' (first | (with_reducible apply And.intro) | intro _)); all_goals (first | exact trivial | (with_reducible assumption) | (show (_ : List Blk) = _; rfl) | (first | exact trivial | (with_reducible assumption) | omega | (split <;> omega) | (split <;> split <;> omega)) | skip); all_goals (try (refine ⟨rfl, (by first | exact Nat.le_refl _ | exact Nat.le_of_ble_eq_true rfl), rfl, rfl, ?_, (by repeat' (first | exact trivial | rfl | apply And.intro)), rfl, rfl⟩)))
      all_goals (first | exact absurd rfl (by assumption) | contradiction | omega | skip)
      all_goals (refine sameA_i4 ?_ ?_ ?_ hc <;> simp only [twA, twB, twM, hc] <;> rfl)
    · rw [if_neg h1] at hc
      by_cases h2 : d = 0
      · rw [if_pos h2] at hc
        refine Goes.tree Γ_ok htb 1000 false false Try.func50 rfl ?_
        ((try simp only [decide_eq_true_eq, decide_eq_false_iff_not, Bool.not_eq_true', Bool.not_eq_false', Bool.not_true, Bool.not_false, Bool.and_eq_true, Bool.or_eq_true, bne_iff_ne, beq_iff_eq, ne_eq]); (try simp only [rng, lo, hi, mnI, mxI, Int.toNat_natCast, Sg.n, Nat.mul_one, Nat.zero_add, Nat.add_zero, Nat.reduceAdd, List.getD_cons_zero, List.getD_cons_succ, h0]))
        ((repeat' (first | (with_reducible apply And.intro) | intro _)); all_goals (first | exact trivial | (with_reducible assumption) | (show (_ : List Blk) = _; rfl) | (first | exact trivial | (with_reducible assumption) | omega | (split <;> omega) | (split <;> split <;> omega)) | skip); all_goals (try (refine ⟨rfl, (by first | exact Nat.le_refl _ | exact Nat.le_of_ble_eq_true rfl), rfl, rfl, ?_, (by repeat' (first | exact trivial | rfl | apply And.intro)), rfl, rfl⟩)))
        all_goals (first | exact absurd rfl (by assumption) | contradiction | omega | skip)
        all_goals (refine sameA_i4 ?_ ?_ ?_ hc <;> simp only [twA, twB, twM, hc] <;> rfl)
      · rw [if_neg h2] at hc
        have hp := (hok h0).2.2
        have hm : ∀ i, mowOk (growN g p i) (yardR p s) l ∧ growOk (growN g p i) g [] := fun i => by
          obtain ⟨a1, a2, a3, a4, a5, a6, a7, a8, a9⟩ := hp
          exact (⟨⟨(growN_ok a3 a1 a2 _).1, fun r hr => (a4 r hr).1, a8, a9, by omega⟩, (growN_ok a3 a1 a2 _).1, (growN_ok a3 a1 a2 _).2, a3, cellsR_nil, by simp⟩)
        have hh2 : ∀ (a : Nat), (a : Int) < d → hayOk (mownP p g (yardR p s) l a) g (yardR p s) (d - a) l := fun a ha => by
          obtain ⟨b1, b2⟩ := mown_ok hp a
          obtain ⟨a1, a2, a3, a4, a5, a6, a7, a8, a9⟩ := hp
          exact ⟨b1, b2, a3, a4, a5, by omega, by omega, a8, a9⟩
        have hO := twO_ok hp d.toNat
        have hrg := two_rng hp
        have hd : 0 ≤ d ∧ d ≤ 365 := by unfold hayOk at hp; omega
        have hdp := (hok h0).1
        have hsp := (hok h0).2.1
        clear hok
        have hA : twA p g s d l = imA (twR p g s d l) := if_pos hc
        have hB : twB p g s d l = imB (twR p g s d l) := if_pos hc
        have hM : twM p g s d l = imM (twR p g s d l) := if_pos hc
        rw [hA, hB, hM, hc]
        unfold twR
        clear hA hB hM
        refine Goes.tree Γ_ok htb 1000 false false Try.func50 rfl ?_
        ((try simp only [decide_eq_true_eq, decide_eq_false_iff_not, Bool.not_eq_true', Bool.not_eq_false', Bool.not_true, Bool.not_false, Bool.and_eq_true, Bool.or_eq_true, bne_iff_ne, beq_iff_eq, ne_eq]); (try simp only [rng, lo, hi, mnI, mxI, Int.toNat_natCast, Sg.n, Nat.mul_one, Nat.zero_add, Nat.add_zero, Nat.reduceAdd, List.getD_cons_zero, List.getD_cons_succ, h0]))
        ((repeat' (first | (with_reducible apply And.intro) | intro _)); all_goals (first | exact trivial | (with_reducible assumption) | (show (_ : List Blk) = _; rfl) | (first | exact trivial | (with_reducible assumption) | omega | (split <;> omega) | (split <;> split <;> omega)) | skip); all_goals (try (refine ⟨rfl, (by first | exact Nat.le_refl _ | exact Nat.le_of_ble_eq_true rfl), rfl, rfl, ?_, (by repeat' (first | exact trivial | rfl | apply And.intro)), rfl, rfl⟩)))
        all_goals (try first | exact absurd rfl (by assumption) | contradiction | exact hdp | exact hsp | omega)
        generalize yardR p s = Y at *
        refine ⟨?_⟩
        refine Goes.loopR (fun a : Nat => d.toNat - a) (fun a => a ≤ d.toNat) (fun a => (.any :: .any :: .any :: .i .i64 d :: .i .i64 l :: .pw 0 .pas :: .pw 1 .gro :: .any :: .any :: .any :: .any :: .any :: .any :: .any :: .any :: .fs .spot Y :: .i .i64 (imA (twO p g Y l d.toNat a)) :: .i .i64 (imB (twO p g Y l d.toNat a)) :: .i .i64 (imM (twO p g Y l d.toNat a)) :: .any :: .any :: .any :: .any :: .any :: .any :: .any :: .any :: .any :: .any :: .any :: .any :: .any :: .any :: .any :: .any :: .any :: .any :: .any :: .any :: .any :: .any :: .any :: .any :: .i .i64 d :: .i .i64 (a:Int) :: .any :: .any :: .any :: .any :: .any :: .any :: .any :: .any :: .any :: .any :: .any :: .any :: .any :: .any :: .any :: .any :: .any :: .any :: .any :: .any :: .any :: .any :: .any :: .any :: .any :: .any :: .any :: .any :: .any :: .any :: .any :: .any :: .any :: .any :: .any :: .any :: .any :: .any :: .any :: .any :: .any :: []))
          (fun a => [.c .pas (growN g p a), .c .gro g]) 0 [0, 1] (Nat.zero_le _) ⟨rfl, rfl, rfl, (by repeat' (first | exact trivial | rfl | apply And.intro)), (by repeat' (first | exact trivial | rfl | apply And.intro)), rfl, rfl, rfl⟩ fun a hle ih => ?_
        obtain ⟨k1, k2⟩ := hm a
        by_cases hlt : (a : Int) < d
        · have ih' := ih (a + 1)
          have e1 : twO p g Y l d.toNat (a + 1) = twI p g Y l (twO p g Y l d.toNat a) a (d.toNat - a) := rfl
          rw [e1] at ih'
          have hh := hh2 a hlt
          clear ih e1
          generalize twO p g Y l d.toNat a = st at *
          refine Goes.tree Γ_ok htb 1000 false false Try.func50 rfl ?_
          ((try simp only [decide_eq_true_eq, decide_eq_false_iff_not, Bool.not_eq_true', Bool.not_eq_false', Bool.not_true, Bool.not_false, Bool.and_eq_true, Bool.or_eq_true, bne_iff_ne, beq_iff_eq, ne_eq]); (try simp only [rng, lo, hi, mnI, mxI, Int.toNat_natCast, Sg.n, Nat.mul_one, Nat.zero_add, Nat.add_zero, Nat.reduceAdd, List.getD_cons_zero, List.getD_cons_succ]))
          ((repeat' (first | (with_reducible apply And.intro) | intro _)); all_goals (first | exact trivial | (with_reducible assumption) | (show (_ : List Blk) = _; rfl) | (first | exact trivial | (with_reducible assumption) | omega | (split <;> omega) | (split <;> split <;> omega)) | skip); all_goals (try (refine ⟨rfl, (by first | exact Nat.le_refl _ | exact Nat.le_of_ble_eq_true rfl), rfl, rfl, ?_, (by repeat' (first | exact trivial | rfl | apply And.intro)), rfl, rfl⟩)))
          all_goals (try first | exact k1 | exact k2 | exact hh)
          · rw [haysL_len]; omega
          refine ⟨?_⟩
          have hRl : (List.drop (1 : Int).toNat (haysL (mownP p g Y l a) g Y l (d - (a:Int) + 1).toNat)).length = d.toNat - a := by
            rw [List.length_drop, haysL_len]; omega
          have hRk : ∀ k, k < d.toNat - a → (List.drop (1 : Int).toNat (haysL (mownP p g Y l a) g Y l (d - (a:Int) + 1).toNat)).getD k [] = [hayAt (mownP p g Y l a) g Y l (k + 1)] := fun k hk => by
            rw [List.getD_eq_getElem?_getD, List.getElem?_drop, ← List.getD_eq_getElem?_getD, haysL_get _ _ _ _ _ _ (by omega)]
            rw [show (1 : Int).toNat + k = k + 1 from by omega]
          show Goes _ _ _ _ _ _ _
          change Goes _ _ _ _ [_, _, _, _, _, _, _, _, _, _, _, _, _, _, _, _, _, _, _, _, _, _, _, _, _, _, _, _, _, _, _, _, _, _, _, _, _, _, _, _, _, _, _, _, _, _, _, _, _, _, _, _, _, _, _, _, _, _, _, .fs .i64 (List.drop (1 : Int).toNat (haysL (mownP p g Y l a) g Y l (d - (a:Int) + 1).toNat)), .i .i64 ((List.drop (1 : Int).toNat (haysL (mownP p g Y l a) g Y l (d - (a:Int) + 1).toNat)).length : Int), _, _, _, _, _, _, _, _, _, _, _, _, _, _, _, _, _, _, _, _, _, _, _, _, _] _ _
          generalize List.drop (1 : Int).toNat (haysL (mownP p g Y l a) g Y l (d - (a:Int) + 1).toNat) = R at *
          refine Goes.loopR (fun k : Nat => R.length - k) (fun k => k ≤ R.length) (fun k => (.any :: .any :: .any :: .i .i64 d :: .i .i64 l :: .pw 0 .pas :: .pw 1 .gro :: .any :: .any :: .any :: .any :: .any :: .any :: .any :: .any :: .fs .spot Y :: .i .i64 (imA (twI p g Y l st a k)) :: .i .i64 (imB (twI p g Y l st a k)) :: .i .i64 (imM (twI p g Y l st a k)) :: .i .i64 (a:Int) :: .any :: .i .i64 (hayAt p g Y l a) :: .any :: .any :: .any :: .any :: .any :: .any :: .any :: .any :: .any :: .any :: .any :: .any :: .any :: .any :: .any :: .any :: .any :: .any :: .any :: .any :: .any :: .i .i64 d :: .i .i64 (a:Int) :: .any :: .any :: .any :: .any :: .any :: .any :: .any :: .any :: .any :: .any :: .any :: .any :: .any :: .any :: .fs .i64 R :: .i .i64 (R.length:Int) :: .i .i64 (k:Int) :: .any :: .any :: .any :: .any :: .any :: .any :: .any :: .any :: .any :: .any :: .any :: .any :: .any :: .any :: .any :: .any :: .any :: .any :: .any :: .any :: .any :: .any :: .any :: .any :: []))
            (fun k => [.c .pas (growN g p a), .c .gro g]) 0 [0, 1] (Nat.zero_le _) ⟨rfl, rfl, rfl, (by repeat' (first | exact trivial | rfl | apply And.intro)), (by repeat' (first | exact trivial | rfl | apply And.intro)), rfl, rfl, rfl⟩ fun k hk ihk => ?_
          obtain ⟨⟨r1, r2⟩, r3, r4⟩ := hrg a (k + 1)
          by_cases hkl : k < R.length
          · have ihk' := ihk (k + 1)
            have e2 : twI p g Y l st a (k + 1) = updT (twI p g Y l st a k) a ((a : Int) + 1 + k) (hayAt p g Y l a + hayAt (mownP p g Y l a) g Y l (k + 1)) := rfl
            rw [e2] at ihk'
            have hv := hRk k (by omega)
            clear ihk e2 ih'
            generalize twI p g Y l st a k = sk at *
            obtain ⟨u1, u2⟩ := updT_im (st := sk) (a := a) (b := (a : Int) + 1 + k) (v := hayAt p g Y l a + hayAt (mownP p g Y l a) g Y l (k + 1)) (by omega)
            refine Goes.tree Γ_ok htb 1000 false false Try.func50 rfl ?_
            ((try simp only [decide_eq_true_eq, decide_eq_false_iff_not, Bool.not_eq_true', Bool.not_eq_false', Bool.not_true, Bool.not_false, Bool.and_eq_true, Bool.or_eq_true, bne_iff_ne, beq_iff_eq, ne_eq]); (try simp only [rng, lo, hi, mnI, mxI, Int.toNat_natCast, Sg.n, Nat.mul_one, Nat.zero_add, Nat.add_zero, Nat.reduceAdd, List.getD_cons_zero, List.getD_cons_succ, hv]))
            ((repeat' (first | (with_reducible apply And.intro) | intro _)); all_goals (first | exact trivial | (with_reducible assumption) | (show (_ : List Blk) = _; rfl) | (first | exact trivial | (with_reducible assumption) | omega | (split <;> omega) | (split <;> split <;> omega)) | skip); all_goals (try (refine ⟨rfl, (by first | exact Nat.le_refl _ | exact Nat.le_of_ble_eq_true rfl), rfl, rfl, ?_, (by repeat' (first | exact trivial | rfl | apply And.intro)), rfl, rfl⟩)))
            all_goals (try omega)
            · refine ⟨ihk' (by omega) (by omega) [0, 1] _ _ ?_⟩
              rw [u1 (by assumption)]
              exact ⟨rfl, rfl, rfl, (by repeat' (first | exact trivial | rfl | apply And.intro)), (by repeat' (first | exact trivial | rfl | apply And.intro)), rfl, rfl, rfl⟩
            · refine ⟨ihk' (by omega) (by omega) [0, 1] _ _ ?_⟩
              rw [u2 (by assumption)]
              exact ⟨rfl, rfl, rfl, (by repeat' (first | exact trivial | rfl | apply And.intro)), (by repeat' (first | exact trivial | rfl | apply And.intro)), rfl, rfl, rfl⟩
          · obtain rfl : k = R.length := by omega
            clear ihk
            rw [hRl]
            refine Goes.tree Γ_ok htb 1000 false false Try.func50 rfl ?_
            ((try simp only [decide_eq_true_eq, decide_eq_false_iff_not, Bool.not_eq_true', Bool.not_eq_false', Bool.not_true, Bool.not_false, Bool.and_eq_true, Bool.or_eq_true, bne_iff_ne, beq_iff_eq, ne_eq]); (try simp only [rng, lo, hi, mnI, mxI, Int.toNat_natCast, Sg.n, Nat.mul_one, Nat.zero_add, Nat.add_zero, Nat.reduceAdd, List.getD_cons_zero, List.getD_cons_succ]))
            ((repeat' (first | (with_reducible apply And.intro) | intro _)); all_goals (first | exact trivial | (with_reducible assumption) | (show (_ : List Blk) = _; rfl) | (first | exact trivial | (with_reducible assumption) | omega | (split <;> omega) | (split <;> split <;> omega)) | skip); all_goals (try (refine ⟨rfl, (by first | exact Nat.le_refl _ | exact Nat.le_of_ble_eq_true rfl), rfl, rfl, ?_, (by repeat' (first | exact trivial | rfl | apply And.intro)), rfl, rfl⟩)))
            all_goals (try first | exact k2 | contradiction)
            exact ⟨ih' (by omega) (by omega) [0, 1] _ _ ⟨rfl, rfl, rfl, (by repeat' (first | exact trivial | rfl | apply And.intro)), (by repeat' (first | exact trivial | rfl | apply And.intro)), rfl, rfl, rfl⟩⟩
        · obtain rfl : a = d.toNat := by omega
          clear ih
          refine Goes.tree Γ_ok htb 1000 false false Try.func50 rfl ?_
          ((try simp only [decide_eq_true_eq, decide_eq_false_iff_not, Bool.not_eq_true', Bool.not_eq_false', Bool.not_true, Bool.not_false, Bool.and_eq_true, Bool.or_eq_true, bne_iff_ne, beq_iff_eq, ne_eq]); (try simp only [rng, lo, hi, mnI, mxI, Int.toNat_natCast, Sg.n, Nat.mul_one, Nat.zero_add, Nat.add_zero, Nat.reduceAdd, List.getD_cons_zero, List.getD_cons_succ]))
          ((repeat' (first | (with_reducible apply And.intro) | intro _)); all_goals (first | exact trivial | (with_reducible assumption) | (show (_ : List Blk) = _; rfl) | (first | exact trivial | (with_reducible assumption) | omega | (split <;> omega) | (split <;> split <;> omega)) | skip); all_goals (try (refine ⟨rfl, (by first | exact Nat.le_refl _ | exact Nat.le_of_ble_eq_true rfl), rfl, rfl, ?_, (by repeat' (first | exact trivial | rfl | apply And.intro)), rfl, rfl⟩)))
          all_goals (first | contradiction | exact sameA_refl _ | trace_state)
  · rw [if_neg h0] at hc
    refine Goes.tree Γ_ok htb 1000 false false Try.func50 rfl ?_
    ((try simp only [decide_eq_true_eq, decide_eq_false_iff_not, Bool.not_eq_true', Bool.not_eq_false', Bool.not_true, Bool.not_false, Bool.and_eq_true, Bool.or_eq_true, bne_iff_ne, beq_iff_eq, ne_eq]); (try simp only [rng, lo, hi, mnI, mxI, Int.toNat_natCast, Sg.n, Nat.mul_one, Nat.zero_add, Nat.add_zero, Nat.reduceAdd, List.getD_cons_zero, List.getD_cons_succ]))
    ((repeat' (first | (with_reducible apply And.intro) | intro _)); all_goals (first | exact trivial | (with_reducible assumption) | (show (_ : List Blk) = _; rfl) | (first | exact trivial | (with_reducible assumption) | omega | (split <;> omega) | (split <;> split <;> omega)) | skip); all_goals (try (refine ⟨rfl, (by first | exact Nat.le_refl _ | exact Nat.le_of_ble_eq_true rfl), rfl, rfl, ?_, (by repeat' (first | exact trivial | rfl | apply And.intro)), rfl, rfl⟩)))
    all_goals (first | exact absurd rfl (by assumption) | contradiction | omega | skip)
    all_goals (refine sameA_i4 ?_ ?_ ?_ hc <;> simp only [twA, twB, twM, hc, if_neg h0] <;> rfl)
end Go.Proofs.Ytgogccconmlkiaa
