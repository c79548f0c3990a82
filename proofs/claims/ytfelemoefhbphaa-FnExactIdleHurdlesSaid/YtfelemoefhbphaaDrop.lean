/- Hurdles that no yard needs are taken away. -/
import Derived.Test.YtfelemoefhbphaaYards
import Derived.Test.YtfelemoefhbphaaHur
namespace Go.Proofs.Ytfelemoefhbphaa
open Go Go.Eng
set_option linter.unusedSimpArgs false
set_option linter.unusedVariables false
set_option maxRecDepth 100000
set_option maxHeartbeats 4000000

/-- A bit is cleared. -/
def offB (v : Int) (x : Nat) : Int := bitsI .andNot .u16 v (IntKind.u16.wrap (1 * 2 ^ (min x IntKind.u16.bits)))
def clrP (q s : List Int) (d : Int) : List Int :=
  if d = 1 then q.set (102 + (s.getD 1 0).toNat) (offB (q.getD (102 + (s.getD 1 0).toNat) 0) (s.getD 0 0).toNat) else q.set (112 + (s.getD 1 0).toNat) (offB (q.getD (112 + (s.getD 1 0).toNat) 0) (s.getD 0 0).toNat)
def setS : Fun
  | [.pw 0 .pas, .ag .spot s, .i .i64 d, .d false], [.c .pas q] => some (.v (.tuple #[]), [.c .pas (clrP q s d)], [inG s ∧ (d = 1 ∨ d = 2)])
  | _, _ => .none
set_option maxRecDepth 100000 in
theorem s_l01Set : Sound Try.prog 130 setS := by
  intro args M r M' vs h hvs
  unfold setS at h
  split at h
  case h_2 => cases h
  rename_i s d q
  cases h
  refine SpecOK.assume fun hA hM => ?_
  have htb := (TbOk.cons s_l01Next Try.func99 rfl rfl (TbOk.nil : TbOk Try.prog tb0))
  refine SpecOK.of_goes [0] Try.func130 rfl ?_
  obtain ⟨⟨hs, hd⟩, -⟩ := hvs
  obtain ⟨a, b, rfl⟩ := len2 hA.2.1
  unfold inG at hs
  clear hA hM
  simp only [List.getD_cons_zero, List.getD_cons_succ] at hs
  obtain ⟨h0, h1, h2, h3⟩ := hs
  rcases hd with rfl | rfl
  · refine Goes.tree Γ_ok htb 1000 false false Try.func130 rfl ?_
    ((try simp only [decide_eq_true_eq, decide_eq_false_iff_not, Bool.not_eq_true', Bool.not_eq_false', Bool.not_true, Bool.not_false, Bool.and_eq_true, Bool.or_eq_true, bne_iff_ne, beq_iff_eq, ne_eq]); (try simp only [rng, lo, hi, mnI, mxI, Int.toNat_natCast, Sg.n, Nat.mul_one, Nat.zero_add, Nat.add_zero, Nat.reduceAdd, List.getD_cons_zero, List.getD_cons_succ, not_true_eq_false, false_implies]))
    ((repeat' (first | (with_reducible apply And.intro) | intro _)); all_goals (first | exact trivial | (with_reducible assumption) | (show (_ : List Blk) = _; rfl) | (first | exact trivial | (with_reducible assumption) | omega | (split <;> omega) | (split <;> split <;> omega)) | skip); all_goals (try (refine ⟨rfl, (by first | exact Nat.le_refl _ | exact Nat.le_of_ble_eq_true rfl), rfl, rfl, ?_, (by repeat' (first | exact trivial | rfl | apply And.intro)), rfl, rfl⟩)))
    all_goals (first | omega | contradiction | exact sameA_refl _ | trace_state)
  · refine Goes.tree Γ_ok htb 1000 false false Try.func130 rfl ?_
    ((try simp only [decide_eq_true_eq, decide_eq_false_iff_not, Bool.not_eq_true', Bool.not_eq_false', Bool.not_true, Bool.not_false, Bool.and_eq_true, Bool.or_eq_true, bne_iff_ne, beq_iff_eq, ne_eq]); (try simp only [rng, lo, hi, mnI, mxI, Int.toNat_natCast, Sg.n, Nat.mul_one, Nat.zero_add, Nat.add_zero, Nat.reduceAdd, List.getD_cons_zero, List.getD_cons_succ, not_true_eq_false, false_implies]))
    ((repeat' (first | (with_reducible apply And.intro) | intro _)); all_goals (first | exact trivial | (with_reducible assumption) | (show (_ : List Blk) = _; rfl) | (first | exact trivial | (with_reducible assumption) | omega | (split <;> omega) | (split <;> split <;> omega)) | skip); all_goals (try (refine ⟨rfl, (by first | exact Nat.le_refl _ | exact Nat.le_of_ble_eq_true rfl), rfl, rfl, ?_, (by repeat' (first | exact trivial | rfl | apply And.intro)), rfl, rfl⟩)))
    all_goals (first | omega | contradiction | exact sameA_refl _ | trace_state)

/-! The clearing, cell by cell. -/
/-- Is the side within, and the same number on both of its cells? -/
def sameT (p T s : List Int) (d : Int) : Bool := isP p (ahead s d) && decide (T.getD (cx s) 0 = T.getD (cx (ahead s d)) 0)
def drp1 (p T q s : List Int) (d : Int) : List Int := if sameT p T s d = true then clrP q s d else q
def drK (p T q s : List Int) : Nat → List Int
  | 0 => q
  | k + 1 => drp1 p T (drK p T q s k) s ((k : Int) + 1)
def drpC (p T q s : List Int) : List Int := drK p T q s 2
def drpL (p T : List Int) (l : List (List Int)) : List Int := l.foldl (drpC p T) p
theorem drpL_row (p T : List Int) (acc : List (List Int)) (y x : Nat) : drpL p T (rowA acc y (x + 1)) = drpC p T (drpL p T (rowA acc y x)) [(x : Int), (y : Int)] := by
  unfold drpL
  show List.foldl _ _ (rowA acc y x ++ [[(x : Int), (y : Int)]]) = _
  rw [List.foldl_append]; rfl

noncomputable def dropS : Fun
  | [.pw 0 .pas], [.c .pas p] => some (.ag .pas (drpL p (yT p (spots p)) (spots p)), [.c .pas p], [okD p])
  | _, _ => .none
set_option maxRecDepth 100000 in
theorem s_l01Dropped : Sound Try.prog 84 dropS := by
  intro args M r M' vs h hvs
  unfold dropS at h
  split at h
  case h_2 => cases h
  rename_i p
  cases h
  refine SpecOK.assume fun hA hM => ?_
  have htb := (TbOk.cons s_l01Numbers Try.func62 rfl rfl (TbOk.cons s_l01Next Try.func99 rfl rfl (TbOk.cons s_l01Is Try.func77 rfl rfl (TbOk.cons s_l01Set Try.func130 rfl rfl (TbOk.nil : TbOk Try.prog tb0)))))
  refine SpecOK.of_goes [0] Try.func84 rfl ?_
  obtain ⟨hd, -⟩ := hvs
  obtain ⟨hw1, hw2, hh1, hh2⟩ := hd
  have hd : okD p := ⟨hw1, hw2, hh1, hh2⟩
  have hT := (yOk hd (spots p)).rg
  have hYl := yL_100 hd
  change ∀ j, 0 ≤ (yT p (spots p)).getD j 0 ∧ (yT p (spots p)).getD j 0 ≤ ((yL p (spots p)).length : Int) at hT
  clear hA hM
  refine Goes.tree Γ_ok htb 1000 false false Try.func84 rfl ?_
  ((try simp only [decide_eq_true_eq, decide_eq_false_iff_not, Bool.not_eq_true', Bool.not_eq_false', Bool.not_true, Bool.not_false, Bool.and_eq_true, Bool.or_eq_true, bne_iff_ne, beq_iff_eq, ne_eq]); (try simp only [rng, lo, hi, mnI, mxI, Int.toNat_natCast, Sg.n, Nat.mul_one, Nat.zero_add, Nat.add_zero, Nat.reduceAdd, List.getD_cons_zero, List.getD_cons_succ]))
  ((repeat' (first | (with_reducible apply And.intro) | intro _)); all_goals (first | exact trivial | (with_reducible assumption) | (show (_ : List Blk) = _; rfl) | (first | exact trivial | (with_reducible assumption) | omega | (split <;> omega) | (split <;> split <;> omega)) | skip); all_goals (try (refine ⟨rfl, (by first | exact Nat.le_refl _ | exact Nat.le_of_ble_eq_true rfl), rfl, rfl, ?_, (by repeat' (first | exact trivial | rfl | apply And.intro)), rfl, rfl⟩)))
  refine ⟨?_⟩
  have hxs : ∀ w y, spotsY w (y + 1) = rowA (spotsY w y) y w := fun _ _ => rfl
  show Goes _ _ _ _ _ _ (fun r' N => Eng.Fin _ _ _ _ (.ag .pas (drpL p (yT p (spots p)) (spotsY (p.getD 0 0).toNat (p.getD 1 0).toNat))) _)
  generalize yT p (spots p) = T at *
  refine Goes.loopR (fun y : Nat => (p.getD 1 0).toNat - y) (fun y => y ≤ (p.getD 1 0).toNat) (fun y => (.pw 0 .pas :: .any :: .pw 1 .pas :: .pw 2 .lgrid :: .any :: .pw 3 .pas :: .i .i8 (y:Int) :: .any :: .any :: .any :: .any :: .any :: .any :: .any :: .any :: .any :: .any :: .any :: .any :: .any :: .any :: .any :: .any :: .any :: .any :: .any :: .any :: .any :: .any :: .any :: .any :: .any :: .any :: .any :: .any :: .any :: .any :: .any :: .any :: .any :: .any :: .any :: .any :: .any :: .any :: .any :: .any :: .any :: .any :: .any :: .any :: .any :: .any :: .any :: .any :: .any :: .any :: .any :: .any :: .any :: .any :: .any :: .any :: .any :: .any :: .any :: .any :: []))
    (fun y => [.c .pas p, .c .pas (List.replicate 122 0), .c .lgrid T, .c .pas (drpL p T (spotsY (p.getD 0 0).toNat y))]) 0 [0, 1, 2, 3] (Nat.zero_le _) ⟨rfl, rfl, rfl, (by repeat' (first | exact trivial | rfl | apply And.intro)), (by repeat' (first | exact trivial | rfl | apply And.intro)), rfl, rfl, rfl⟩ fun y hy ihO => ?_
  by_cases hlt : (y : Int) < p.getD 1 0
  · refine Goes.tree Γ_ok htb 1000 false false Try.func84 rfl ?_
    ((try simp only [decide_eq_true_eq, decide_eq_false_iff_not, Bool.not_eq_true', Bool.not_eq_false', Bool.not_true, Bool.not_false, Bool.and_eq_true, Bool.or_eq_true, bne_iff_ne, beq_iff_eq, ne_eq]); (try simp only [rng, lo, hi, mnI, mxI, Int.toNat_natCast, Sg.n, Nat.mul_one, Nat.zero_add, Nat.add_zero, Nat.reduceAdd, List.getD_cons_zero, List.getD_cons_succ]))
    ((repeat' (first | (with_reducible apply And.intro) | intro _)); all_goals (first | exact trivial | (with_reducible assumption) | (show (_ : List Blk) = _; rfl) | (first | exact trivial | (with_reducible assumption) | omega | (split <;> omega) | (split <;> split <;> omega)) | skip); all_goals (try (refine ⟨rfl, (by first | exact Nat.le_refl _ | exact Nat.le_of_ble_eq_true rfl), rfl, rfl, ?_, (by repeat' (first | exact trivial | rfl | apply And.intro)), rfl, rfl⟩)))
    refine ⟨?_⟩
    refine Goes.loopR (fun x : Nat => (p.getD 0 0).toNat - x) (fun x => x ≤ (p.getD 0 0).toNat) (fun x => (.pw 0 .pas :: .any :: .pw 1 .pas :: .pw 2 .lgrid :: .any :: .pw 3 .pas :: .i .i8 (y:Int) :: .i .i8 (x:Int) :: .any :: .any :: .any :: .any :: .any :: .any :: .any :: .any :: .any :: .any :: .any :: .any :: .any :: .any :: .any :: .any :: .any :: .any :: .any :: .any :: .any :: .any :: .any :: .any :: .any :: .any :: .any :: .any :: .any :: .any :: .any :: .any :: .any :: .any :: .any :: .any :: .any :: .any :: .any :: .any :: .any :: .any :: .any :: .any :: .any :: .any :: .any :: .any :: .any :: .any :: .any :: .any :: .any :: .any :: .any :: .any :: .any :: .any :: .any :: []))
      (fun x => [.c .pas p, .c .pas (List.replicate 122 0), .c .lgrid T, .c .pas (drpL p T (rowA (spotsY (p.getD 0 0).toNat y) y x))]) 0 [0, 1, 2, 3] (Nat.zero_le _) ⟨rfl, rfl, rfl, (by repeat' (first | exact trivial | rfl | apply And.intro)), (by repeat' (first | exact trivial | rfl | apply And.intro)), rfl, rfl, rfl⟩ fun x hx ih => ?_
    have e1 := drpL_row p T (spotsY (p.getD 0 0).toNat y) y x
    have ih' := ih (x + 1)
    rw [e1] at ih'
    clear ih e1
    by_cases hxl : (x : Int) < p.getD 0 0
    · generalize drpL p T (rowA (spotsY (p.getD 0 0).toNat y) y x) = q at *
      have hG : inG [(x : Int), (y : Int)] := by simp only [inG, List.getD_cons_zero, List.getD_cons_succ]; omega
      have hP : isP p [(x : Int), (y : Int)] = true := by
        unfold isP
        simp only [List.getD_cons_zero, List.getD_cons_succ, decide_eq_true_eq]; omega
      refine Goes.tree Γ_ok htb 1000 false false Try.func84 rfl ?_
      ((try simp only [decide_eq_true_eq, decide_eq_false_iff_not, Bool.not_eq_true', Bool.not_eq_false', Bool.not_true, Bool.not_false, Bool.and_eq_true, Bool.or_eq_true, bne_iff_ne, beq_iff_eq, ne_eq]); (try simp only [rng, lo, hi, mnI, mxI, Int.toNat_natCast, Sg.n, Nat.mul_one, Nat.zero_add, Nat.add_zero, Nat.reduceAdd, List.getD_cons_zero, List.getD_cons_succ]))
      ((repeat' (first | (with_reducible apply And.intro) | intro _)); all_goals (first | exact trivial | (with_reducible assumption) | (show (_ : List Blk) = _; rfl) | (first | exact trivial | (with_reducible assumption) | omega | (split <;> omega) | (split <;> split <;> omega)) | skip); all_goals (try (refine ⟨rfl, (by first | exact Nat.le_refl _ | exact Nat.le_of_ble_eq_true rfl), rfl, rfl, ?_, (by repeat' (first | exact trivial | rfl | apply And.intro)), rfl, rfl⟩)))
      refine ⟨?_⟩
      refine Goes.loopR (fun k : Nat => 2 - k) (fun k => k ≤ 2) (fun k => (.pw 0 .pas :: .any :: .pw 1 .pas :: .pw 2 .lgrid :: .any :: .pw 3 .pas :: .i .i8 (y:Int) :: .i .i8 (x:Int) :: .i .i64 ((k : Int) + 1) :: .any :: .any :: .any :: .any :: .any :: .any :: .any :: .any :: .any :: .any :: .any :: .any :: .any :: .any :: .any :: .any :: .any :: .any :: .any :: .any :: .any :: .any :: .any :: .any :: .any :: .any :: .any :: .any :: .any :: .any :: .any :: .any :: .any :: .any :: .any :: .any :: .any :: .any :: .any :: .any :: .any :: .any :: .any :: .any :: .any :: .any :: .any :: .any :: .any :: .any :: .any :: .any :: .any :: .any :: .any :: .any :: .any :: .any :: []))
        (fun k => [.c .pas p, .c .pas (List.replicate 122 0), .c .lgrid T, .c .pas (drK p T q [(x : Int), (y : Int)] k)]) 0 [0, 1, 2, 3] (Nat.zero_le _) ⟨rfl, rfl, rfl, (by repeat' (first | exact trivial | rfl | apply And.intro)), (by repeat' (first | exact trivial | rfl | apply And.intro)), rfl, rfl, rfl⟩ fun k hk ihK => ?_
      by_cases hk2 : k < 2
      · have hnr : near [(x : Int), (y : Int)] := near_of hd hP
        have hA := fun h => inG_isP hd (s := ahead [(x : Int), (y : Int)] ((k : Int) + 1)) h
        unfold inG at hA
        have hcx : cx [(x : Int), (y : Int)] = y * 10 + x := by unfold cx; simp
        have e1 : drK p T q [(x : Int), (y : Int)] (k + 1) = drp1 p T (drK p T q [(x : Int), (y : Int)] k) [(x : Int), (y : Int)] ((k : Int) + 1) := rfl
        have ihK' := ihK (k + 1)
        rw [e1] at ihK'
        clear ihK e1 ih'
        generalize drK p T q [(x : Int), (y : Int)] k = r at *
        have hsame : ∀ d : Int, sameT p T [(x : Int), (y : Int)] d = (isP p (ahead [(x : Int), (y : Int)] d) && decide (T.getD (y * 10 + x) 0 = T.getD (((ahead [(x : Int), (y : Int)] d).getD 1 0).toNat * 10 + ((ahead [(x : Int), (y : Int)] d).getD 0 0).toNat) 0)) := fun d => by
          unfold sameT
          rw [hcx]; rfl
        have hyes : ∀ d : Int, isP p (ahead [(x : Int), (y : Int)] d) = true → T.getD (y * 10 + x) 0 = T.getD (((ahead [(x : Int), (y : Int)] d).getD 1 0).toNat * 10 + ((ahead [(x : Int), (y : Int)] d).getD 0 0).toNat) 0 → drp1 p T r [(x : Int), (y : Int)] d = clrP r [(x : Int), (y : Int)] d := fun d h1 h2 => by
          unfold drp1
          rw [if_pos (by rw [hsame, h1, decide_eq_true h2]; rfl)]
        have hn1 : ∀ d : Int, ¬ T.getD (y * 10 + x) 0 = T.getD (((ahead [(x : Int), (y : Int)] d).getD 1 0).toNat * 10 + ((ahead [(x : Int), (y : Int)] d).getD 0 0).toNat) 0 → drp1 p T r [(x : Int), (y : Int)] d = r := fun d h2 => by
          unfold drp1
          rw [if_neg (by rw [hsame, decide_eq_false h2, Bool.and_false]; decide)]
        have hn2 : ∀ d : Int, isP p (ahead [(x : Int), (y : Int)] d) = false → drp1 p T r [(x : Int), (y : Int)] d = r := fun d h2 => by
          unfold drp1
          rw [if_neg (by rw [hsame, h2, Bool.false_and]; decide)]
        refine Goes.tree Γ_ok htb 1000 false false Try.func84 rfl ?_
        ((try simp only [decide_eq_true_eq, decide_eq_false_iff_not, Bool.not_eq_true', Bool.not_eq_false', Bool.not_true, Bool.not_false, Bool.and_eq_true, Bool.or_eq_true, bne_iff_ne, beq_iff_eq, ne_eq]); (try simp only [rng, lo, hi, mnI, mxI, Int.toNat_natCast, Sg.n, Nat.mul_one, Nat.zero_add, Nat.add_zero, Nat.reduceAdd, List.getD_cons_zero, List.getD_cons_succ]))
        ((repeat' (first | (with_reducible apply And.intro) | intro _)); all_goals (first | exact trivial | (with_reducible assumption) | (show (_ : List Blk) = _; rfl) | (first | exact trivial | (with_reducible assumption) | omega | (split <;> omega) | (split <;> split <;> omega)) | skip); all_goals (try (refine ⟨rfl, (by first | exact Nat.le_refl _ | exact Nat.le_of_ble_eq_true rfl), rfl, rfl, ?_, (by repeat' (first | exact trivial | rfl | apply And.intro)), rfl, rfl⟩)))
        all_goals (try first | exact hnr | exact hG | (have := hA (by assumption); omega) | omega)
        · refine ⟨ihK' (by omega) (by omega) [0, 1, 2, 3] _ _ ?_⟩
          rw [hyes _ (by assumption) (by assumption)]
          exact ⟨rfl, rfl, rfl, (by repeat' (first | exact trivial | rfl | apply And.intro)), (by repeat' (first | exact trivial | rfl | apply And.intro)), rfl, rfl, rfl⟩
        · refine ⟨ihK' (by omega) (by omega) [0, 1, 2, 3] _ _ ?_⟩
          rw [hn1 _ (by assumption)]
          exact ⟨rfl, rfl, rfl, (by repeat' (first | exact trivial | rfl | apply And.intro)), (by repeat' (first | exact trivial | rfl | apply And.intro)), rfl, rfl, rfl⟩
        · refine ⟨ihK' (by omega) (by omega) [0, 1, 2, 3] _ _ ?_⟩
          rw [hn2 _ (by assumption)]
          exact ⟨rfl, rfl, rfl, (by repeat' (first | exact trivial | rfl | apply And.intro)), (by repeat' (first | exact trivial | rfl | apply And.intro)), rfl, rfl, rfl⟩
      · obtain rfl : k = 2 := by omega
        clear ihK
        refine Goes.tree Γ_ok htb 1000 false false Try.func84 rfl ?_
        ((try simp only [decide_eq_true_eq, decide_eq_false_iff_not, Bool.not_eq_true', Bool.not_eq_false', Bool.not_true, Bool.not_false, Bool.and_eq_true, Bool.or_eq_true, bne_iff_ne, beq_iff_eq, ne_eq]); (try simp only [rng, lo, hi, mnI, mxI, Int.toNat_natCast, Sg.n, Nat.mul_one, Nat.zero_add, Nat.add_zero, Nat.reduceAdd, List.getD_cons_zero, List.getD_cons_succ]))
        ((repeat' (first | (with_reducible apply And.intro) | intro _)); all_goals (first | exact trivial | (with_reducible assumption) | (show (_ : List Blk) = _; rfl) | (first | exact trivial | (with_reducible assumption) | omega | (split <;> omega) | (split <;> split <;> omega)) | skip); all_goals (try (refine ⟨rfl, (by first | exact Nat.le_refl _ | exact Nat.le_of_ble_eq_true rfl), rfl, rfl, ?_, (by repeat' (first | exact trivial | rfl | apply And.intro)), rfl, rfl⟩)))
        all_goals (first | exact ⟨ih' (by omega) (by omega) [0, 1, 2, 3] _ _ ⟨rfl, rfl, rfl, (by repeat' (first | exact trivial | rfl | apply And.intro)), (by repeat' (first | exact trivial | rfl | apply And.intro)), rfl, rfl, rfl⟩⟩ | trace_state)
    · obtain rfl : x = (p.getD 0 0).toNat := by omega
      clear ih'
      refine Goes.tree Γ_ok htb 1000 false false Try.func84 rfl ?_
      ((try simp only [decide_eq_true_eq, decide_eq_false_iff_not, Bool.not_eq_true', Bool.not_eq_false', Bool.not_true, Bool.not_false, Bool.and_eq_true, Bool.or_eq_true, bne_iff_ne, beq_iff_eq, ne_eq]); (try simp only [rng, lo, hi, mnI, mxI, Int.toNat_natCast, Sg.n, Nat.mul_one, Nat.zero_add, Nat.add_zero, Nat.reduceAdd, List.getD_cons_zero, List.getD_cons_succ]))
      ((repeat' (first | (with_reducible apply And.intro) | intro _)); all_goals (first | exact trivial | (with_reducible assumption) | (show (_ : List Blk) = _; rfl) | (first | exact trivial | (with_reducible assumption) | omega | (split <;> omega) | (split <;> split <;> omega)) | skip); all_goals (try (refine ⟨rfl, (by first | exact Nat.le_refl _ | exact Nat.le_of_ble_eq_true rfl), rfl, rfl, ?_, (by repeat' (first | exact trivial | rfl | apply And.intro)), rfl, rfl⟩)))
      all_goals (first | exact ⟨ihO (y + 1) (by omega) (by omega) [0, 1, 2, 3] _ _ ⟨rfl, rfl, rfl, (by repeat' (first | exact trivial | rfl | apply And.intro)), (by repeat' (first | exact trivial | rfl | apply And.intro)), rfl, rfl, rfl⟩⟩ | trace_state)
  · obtain rfl : y = (p.getD 1 0).toNat := by omega
    clear ihO
    refine Goes.tree Γ_ok htb 1000 false false Try.func84 rfl ?_
    ((try simp only [decide_eq_true_eq, decide_eq_false_iff_not, Bool.not_eq_true', Bool.not_eq_false', Bool.not_true, Bool.not_false, Bool.and_eq_true, Bool.or_eq_true, bne_iff_ne, beq_iff_eq, ne_eq]); (try simp only [rng, lo, hi, mnI, mxI, Int.toNat_natCast, Sg.n, Nat.mul_one, Nat.zero_add, Nat.add_zero, Nat.reduceAdd, List.getD_cons_zero, List.getD_cons_succ]))
    ((repeat' (first | (with_reducible apply And.intro) | intro _)); all_goals (first | exact trivial | (with_reducible assumption) | (show (_ : List Blk) = _; rfl) | (first | exact trivial | (with_reducible assumption) | omega | (split <;> omega) | (split <;> split <;> omega)) | skip); all_goals (try (refine ⟨rfl, (by first | exact Nat.le_refl _ | exact Nat.le_of_ble_eq_true rfl), rfl, rfl, ?_, (by repeat' (first | exact trivial | rfl | apply And.intro)), rfl, rfl⟩)))
    all_goals (first | contradiction | exact sameA_refl _ | trace_state)
end Go.Proofs.Ytfelemoefhbphaa
