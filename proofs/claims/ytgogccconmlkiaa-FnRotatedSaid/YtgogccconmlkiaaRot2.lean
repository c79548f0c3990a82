/- Days of rotation: what is eaten on each. -/
import Derived.Test.YtgogccconmlkiaaRot
namespace Go.Proofs.Ytgogccconmlkiaa
open Go Go.Eng
set_option linter.unusedSimpArgs false
set_option linter.unusedVariables false
set_option maxRecDepth 100000
set_option maxHeartbeats 4000000

/-- Where a day looks in the order, and its yard. -/
def dyI (rows : List (List Int)) (stay : Int) (d : Nat) : Int := ((d : Int).tdiv stay).tmod rows.length
def dyO (rows : List (List Int)) (stay : Int) (d : Nat) : Int := (rows.getD (dyI rows stay d).toNat []).getD 0 0
def dyY (Ys : List (List (List Int))) (rows : List (List Int)) (stay : Int) (d : Nat) : List (List Int) := Ys.getD (dyO rows stay d).toNat []
def rtK (p g : List Int) (Ys : List (List (List Int))) (rows : List (List Int)) (stay eats : Int) : Nat → List Int × List (List Int)
  | 0 => (p, [])
  | d + 1 => (growP g (dyY Ys rows stay d) (grzK (rtK p g Ys rows stay eats d).1 (dyY Ys rows stay d) eats (dyY Ys rows stay d).length).1, (rtK p g Ys rows stay eats d).2 ++ [[(grzK (rtK p g Ys rows stay eats d).1 (dyY Ys rows stay d) eats (dyY Ys rows stay d).length).2]])

def ysOk (Ys : List (List (List Int))) : Prop := ∀ Y ∈ Ys, cellsR Y ∧ Y.length ≤ 100
def ordOk (Ys : List (List (List Int))) (rows : List (List Int)) : Prop := (1 ≤ (rows.length : Int) ∧ (rows.length : Int) ≤ 40) ∧ ∀ r ∈ rows, 0 ≤ r.getD 0 0 ∧ r.getD 0 0 < Ys.length

theorem dy_ok {Ys : List (List (List Int))} {rows : List (List Int)} {stay : Int} (hs : 1 ≤ stay) (ho : ordOk Ys rows) (d : Nat) :
    0 ≤ (d : Int).tdiv stay ∧ (d : Int).tdiv stay ≤ d ∧ 0 ≤ dyI rows stay d ∧ dyI rows stay d < rows.length ∧ 0 ≤ dyO rows stay d ∧ dyO rows stay d < Ys.length := by
  have h0 : 0 ≤ (d : Int).tdiv stay := Int.tdiv_nonneg (by omega) (by omega)
  have h1 : (d : Int).tdiv stay ≤ d := by
    rw [Int.tdiv_eq_ediv_of_nonneg (by omega)]
    exact Int.ediv_le_self _ (by omega)
  have h2 : 0 ≤ dyI rows stay d := Int.tmod_nonneg _ h0
  have h3 : dyI rows stay d < rows.length := Int.tmod_lt_of_pos _ (by have := ho.1.1; omega)
  refine ⟨h0, h1, h2, h3, ho.2 _ (getD_mem (by omega))⟩

theorem dyY_ok {Ys : List (List (List Int))} {rows : List (List Int)} {stay : Int} (hY : ysOk Ys) (hs : 1 ≤ stay) (ho : ordOk Ys rows) (d : Nat) : cellsR (dyY Ys rows stay d) ∧ (dyY Ys rows stay d).length ≤ 100 := by
  obtain ⟨-, -, -, -, h1, h2⟩ := dy_ok hs ho d
  exact hY _ (getD_mem (by omega))

structure RtOk (p g : List Int) (Ys : List (List (List Int))) (rows : List (List Int)) (stay eats days : Int) : Prop where
  gr : GR p
  dm : okD p
  gg : okG g
  ys : ysOk Ys
  st : 1 ≤ stay ∧ stay ≤ 365
  ea : 0 ≤ eats ∧ eats ≤ 100000
  od : ordOk Ys rows
  dd : 0 ≤ days ∧ days ≤ 365

theorem rtK_ok {p g : List Int} {Ys : List (List (List Int))} {rows : List (List Int)} {stay eats days : Int} (h : RtOk p g Ys rows stay eats days) : ∀ d, GR (rtK p g Ys rows stay eats d).1 ∧ okD (rtK p g Ys rows stay eats d).1 ∧ (rtK p g Ys rows stay eats d).2.length = d ∧ ∀ r ∈ (rtK p g Ys rows stay eats d).2, 0 ≤ r.getD 0 0 ∧ r.getD 0 0 ≤ 100000 := by
  intro d
  induction d with
  | zero => exact ⟨h.gr, h.dm, rfl, fun r hr => by cases hr⟩
  | succ d ih =>
    obtain ⟨i1, i2, i3, i4⟩ := ih
    obtain ⟨y1, y2⟩ := dyY_ok h.ys h.st.1 h.od d
    obtain ⟨g1, g2, g3, g4⟩ := grzK_ok i1 (fun s hs => (y1 s hs).1) h.ea.1 _ (Nat.le_refl (dyY Ys rows stay d).length)
    have gd : okD (grzK (rtK p g Ys rows stay eats d).1 (dyY Ys rows stay d) eats (dyY Ys rows stay d).length).1 := by
      unfold okD at *
      rw [g4 0 (by omega), g4 1 (by omega)]; exact i2
    have := growP_ok (but := dyY Ys rows stay d) h.gg g1 gd
    refine ⟨this.1, this.2, by simp [rtK, i3], fun r hr => ?_⟩
    rcases List.mem_append.1 hr with hr | hr
    · exact i4 r hr
    · rw [List.mem_singleton.1 hr]
      have := h.ea.2
      simp only [List.getD_cons_zero]; omega
theorem rt_grz {p g : List Int} {Ys : List (List (List Int))} {rows : List (List Int)} {stay eats days : Int} (h : RtOk p g Ys rows stay eats days) (d : Nat) :
    grzOk (rtK p g Ys rows stay eats d).1 (dyY Ys rows stay d) eats ∧ growOk (grzK (rtK p g Ys rows stay eats d).1 (dyY Ys rows stay d) eats (dyY Ys rows stay d).length).1 g (dyY Ys rows stay d) ∧ 0 ≤ (grzK (rtK p g Ys rows stay eats d).1 (dyY Ys rows stay d) eats (dyY Ys rows stay d).length).2 ∧ (grzK (rtK p g Ys rows stay eats d).1 (dyY Ys rows stay d) eats (dyY Ys rows stay d).length).2 ≤ 100000 := by
  obtain ⟨i1, i2, i3, i4⟩ := rtK_ok h d
  obtain ⟨y1, y2⟩ := dyY_ok h.ys h.st.1 h.od d
  obtain ⟨g1, g2, g3, g4⟩ := grzK_ok i1 (fun s hs => (y1 s hs).1) h.ea.1 _ (Nat.le_refl (dyY Ys rows stay d).length)
  have gd : okD (grzK (rtK p g Ys rows stay eats d).1 (dyY Ys rows stay d) eats (dyY Ys rows stay d).length).1 := by
    unfold okD at *
    rw [g4 0 (by omega), g4 1 (by omega)]; exact i2
  have := h.ea.2
  exact ⟨⟨i1, fun s hs => (y1 s hs).1, h.ea.1, h.ea.2, by omega⟩, ⟨g1, gd, h.gg, y1, by omega⟩, g2, by omega⟩

noncomputable def rtVS : Fun
  | [.ag .pas p, .pw 0 .gro, .fs .i64 rows, .i .i64 stay, .i .i64 eats, .i .i64 days], [.c .gro g] => some (.t2 (.ag .pas (rtK p g (yL p (spots p)) rows stay eats days.toNat).1) (.fs .i64 (rtK p g (yL p (spots p)) rows stay eats days.toNat).2), [.c .gro g], [RtOk p g (yL p (spots p)) rows stay eats days])
  | _, _ => .none
set_option maxRecDepth 100000 in
theorem s_l04Rotate : Sound Try.prog 65 rtVS := by
  intro args M r M' vs h hvs
  unfold rtVS at h
  split at h
  case h_2 => cases h
  rename_i p rows stay eats days g
  cases h
  refine SpecOK.assume fun hA hM => ?_
  have htb := (TbOk.cons s_l01Numbers Try.func122 rfl rfl (TbOk.cons s_l04Graze Try.func123 rfl rfl (TbOk.cons s_l04Grow Try.func104 rfl rfl (TbOk.nil : TbOk Try.prog tb0))))
  refine SpecOK.of_goes [0] Try.func65 rfl ?_
  obtain ⟨hR, -⟩ := hvs
  have hK := rtK_ok hR
  have hZ := rt_grz hR
  have hD := fun d => dy_ok (d := d) hR.st.1 hR.od
  obtain ⟨-, hd, -, -, hst, hea, hod, hdd⟩ := hR
  have hn1 := hod.1
  clear hA hM hod
  refine Goes.tree Γ_ok htb 1000 true false Try.func65 rfl ?_
  ((try simp only [decide_eq_true_eq, decide_eq_false_iff_not, Bool.not_eq_true', Bool.not_eq_false', Bool.not_true, Bool.not_false, Bool.and_eq_true, Bool.or_eq_true, bne_iff_ne, beq_iff_eq, ne_eq]); (try simp only [rng, lo, hi, mnI, mxI, Int.toNat_natCast, Sg.n, Nat.mul_one, Nat.zero_add, Nat.add_zero, Nat.reduceAdd, List.getD_cons_zero, List.getD_cons_succ]))
  ((repeat' (first | (with_reducible apply And.intro) | intro _)); all_goals (first | exact trivial | (with_reducible assumption) | (show (_ : List Blk) = _; rfl) | (first | exact trivial | (with_reducible assumption) | omega | (split <;> omega) | (split <;> split <;> omega)) | skip); all_goals (try (refine ⟨rfl, (by first | exact Nat.le_refl _ | exact Nat.le_of_ble_eq_true rfl), rfl, rfl, ?_, (by repeat' (first | exact trivial | rfl | apply And.intro)), rfl, rfl⟩)))
  refine ⟨?_⟩
  generalize hYs : yL p (spots p) = Ys at *
  generalize hTs : yT p (spots p) = Ts at *
  refine Goes.loopR (fun d : Nat => days.toNat - d) (fun d => d ≤ days.toNat) (fun d => (.any :: .pw 0 .gro :: .fs .i64 rows :: .i .i64 stay :: .i .i64 eats :: .i .i64 days :: .pw 1 .pas :: .any :: .any :: .any :: .any :: .any :: .pw 2 .pas :: .any :: .any :: .fz .spot Ys :: .ow 3 (rtK p g Ys rows stay eats d).2.length .i64 2 :: .i .i64 (d:Int) :: .any :: .any :: .any :: .any :: .any :: .any :: .any :: .any :: .any :: .any :: .any :: .any :: .any :: .any :: .any :: .any :: .any :: .any :: .any :: .any :: .any :: .any :: .any :: .any :: .any :: .any :: .any :: .any :: .any :: .any :: .any :: .any :: .any :: .any :: .any :: .any :: .any :: .any :: .any :: .any :: .any :: .any :: []))
    (fun d => [.c .gro g, .c .pas (rtK p g Ys rows stay eats d).1, .c .pas (List.replicate 122 0), .l .i64 (rtK p g Ys rows stay eats d).2]) 0 [0, 1, 2, 4] (Nat.zero_le _) ⟨rfl, rfl, rfl, (by repeat' (first | exact trivial | rfl | apply And.intro)), (by repeat' (first | exact trivial | rfl | apply And.intro)), rfl, rfl, rfl⟩ fun d hle ih => ?_
  obtain ⟨k1, k2, k3, k4⟩ := hK d
  obtain ⟨z1, z2, z3, z4⟩ := hZ d
  have dd := hD d
  by_cases hlt : (d : Int) < days
  · unfold dyO dyI at dd
    refine Goes.tree Γ_ok htb 1000 true false Try.func65 rfl ?_
    ((try simp only [decide_eq_true_eq, decide_eq_false_iff_not, Bool.not_eq_true', Bool.not_eq_false', Bool.not_true, Bool.not_false, Bool.and_eq_true, Bool.or_eq_true, bne_iff_ne, beq_iff_eq, ne_eq]); (try simp only [rng, lo, hi, mnI, mxI, Int.toNat_natCast, Sg.n, Nat.mul_one, Nat.zero_add, Nat.add_zero, Nat.reduceAdd, List.getD_cons_zero, List.getD_cons_succ, one_row]))
    ((repeat' (first | (with_reducible apply And.intro) | intro _)); all_goals (first | exact trivial | (with_reducible assumption) | (show (_ : List Blk) = _; rfl) | (first | exact trivial | (with_reducible assumption) | omega | (split <;> omega) | (split <;> split <;> omega)) | skip); all_goals (try (refine ⟨rfl, (by first | exact Nat.le_refl _ | exact Nat.le_of_ble_eq_true rfl), rfl, rfl, ?_, (by repeat' (first | exact trivial | rfl | apply And.intro)), rfl, rfl⟩)))
    all_goals (try first | exact dd.2.2.2.2.1 | exact dd.2.2.2.2.2 | exact z1 | exact z2)
    · show ((rtK p g Ys rows stay eats d).2 ++ [_]).length ≤ _
      simp only [List.length_append, List.length_cons, List.length_nil]; omega
    · exact ⟨ih (d + 1) (by omega) (by omega) [0, 1, 2, 6] _ _ ⟨rfl, rfl, rfl, (by repeat' (first | exact trivial | rfl | apply And.intro)), (by repeat' (first | exact trivial | rfl | apply And.intro)), rfl, rfl, rfl⟩⟩
  · obtain rfl : d = days.toNat := by omega
    clear ih
    refine Goes.tree Γ_ok htb 1000 true false Try.func65 rfl ?_
    ((try simp only [decide_eq_true_eq, decide_eq_false_iff_not, Bool.not_eq_true', Bool.not_eq_false', Bool.not_true, Bool.not_false, Bool.and_eq_true, Bool.or_eq_true, bne_iff_ne, beq_iff_eq, ne_eq]); (try simp only [rng, lo, hi, mnI, mxI, Int.toNat_natCast, Sg.n, Nat.mul_one, Nat.zero_add, Nat.add_zero, Nat.reduceAdd, List.getD_cons_zero, List.getD_cons_succ]))
    ((repeat' (first | (with_reducible apply And.intro) | intro _)); all_goals (first | exact trivial | (with_reducible assumption) | (show (_ : List Blk) = _; rfl) | (first | exact trivial | (with_reducible assumption) | omega | (split <;> omega) | (split <;> split <;> omega)) | skip); all_goals (try (refine ⟨rfl, (by first | exact Nat.le_refl _ | exact Nat.le_of_ble_eq_true rfl), rfl, rfl, ?_, (by repeat' (first | exact trivial | rfl | apply And.intro)), rfl, rfl⟩)))
    all_goals (first | contradiction | exact sameA_refl _ | trace_state)

noncomputable def rtPS : Fun
  | [.pw 0 .pas, .ag .gro g, .fs .i64 rows, .i .i64 stay, .i .i64 eats, .i .i64 days], [.c .pas p] => some (.fs .i64 (rtK p g (yL p (spots p)) rows stay eats days.toNat).2, [.c .pas (rtK p g (yL p (spots p)) rows stay eats days.toNat).1], [RtOk p g (yL p (spots p)) rows stay eats days])
  | _, _ => .none
set_option maxRecDepth 100000 in
theorem s_rotate : Sound Try.prog 69 rtPS := by
  intro args M r M' vs h hvs
  unfold rtPS at h
  split at h
  case h_2 => cases h
  rename_i g rows stay eats days p
  cases h
  refine SpecOK.assume fun hA hM => ?_
  have htb := (TbOk.cons s_yards Try.func76 rfl rfl (TbOk.cons s_sizeI Try.func126 rfl rfl (TbOk.cons s_graze Try.func84 rfl rfl (TbOk.cons s_grow Try.func105 rfl rfl (TbOk.nil : TbOk Try.prog tb0)))))
  refine SpecOK.of_goes [0] Try.func69 rfl ?_
  obtain ⟨hR, -⟩ := hvs
  have hl : (rows.length : Int) ≤ 40 := hR.od.1.2
  have hK := rtK_ok hR
  have hZ := rt_grz hR
  have hD := fun d => dy_ok (d := d) hR.st.1 hR.od
  obtain ⟨-, hd, -, -, hst, hea, hod, hdd⟩ := hR
  have hn1 := hod.1
  clear hA hM hod
  refine Goes.tree Γ_ok htb 1000 true false Try.func69 rfl ?_
  ((try simp only [decide_eq_true_eq, decide_eq_false_iff_not, Bool.not_eq_true', Bool.not_eq_false', Bool.not_true, Bool.not_false, Bool.and_eq_true, Bool.or_eq_true, bne_iff_ne, beq_iff_eq, ne_eq]); (try simp only [rng, lo, hi, mnI, mxI, Int.toNat_natCast, Sg.n, Nat.mul_one, Nat.zero_add, Nat.add_zero, Nat.reduceAdd, List.getD_cons_zero, List.getD_cons_succ]))
  ((repeat' (first | (with_reducible apply And.intro) | intro _)); all_goals (first | exact trivial | (with_reducible assumption) | (show (_ : List Blk) = _; rfl) | (first | exact trivial | (with_reducible assumption) | omega | (split <;> omega) | (split <;> split <;> omega)) | skip); all_goals (try (refine ⟨rfl, (by first | exact Nat.le_refl _ | exact Nat.le_of_ble_eq_true rfl), rfl, rfl, ?_, (by repeat' (first | exact trivial | rfl | apply And.intro)), rfl, rfl⟩)))
  refine ⟨?_⟩
  generalize hYs : yL p (spots p) = Ys at *
  refine Goes.loopR (fun d : Nat => days.toNat - d) (fun d => d ≤ days.toNat) (fun d => (.pw 0 .pas :: .any :: .fs .i64 rows :: .i .i64 stay :: .i .i64 eats :: .any :: .any :: .pw 1 .gro :: .any :: .any :: .any :: .any :: .any :: .fz .spot Ys :: .ow 2 (rtK p g Ys rows stay eats d).2.length .i64 2 :: .any :: .any :: .any :: .any :: .any :: .any :: .any :: .i .i64 days :: .i .i64 (d:Int) :: .any :: .any :: .any :: .any :: .any :: .any :: .any :: .any :: .any :: .any :: .any :: .any :: .any :: .any :: .any :: .any :: .any :: .any :: .any :: .any :: .any :: .any :: .any :: .any :: .any :: .any :: .any :: []))
    (fun d => [.c .pas (rtK p g Ys rows stay eats d).1, .c .gro g, .l .i64 (rtK p g Ys rows stay eats d).2]) 0 [0, 1, 2] (Nat.zero_le _) ⟨rfl, rfl, rfl, (by repeat' (first | exact trivial | rfl | apply And.intro)), (by repeat' (first | exact trivial | rfl | apply And.intro)), rfl, rfl, rfl⟩ fun d hle ih => ?_
  obtain ⟨k1, k2, k3, k4⟩ := hK d
  obtain ⟨z1, z2, z3, z4⟩ := hZ d
  have dd := hD d
  by_cases hlt : (d : Int) < days
  · unfold dyO dyI at dd
    refine Goes.tree Γ_ok htb 1000 true false Try.func69 rfl ?_
    ((try simp only [decide_eq_true_eq, decide_eq_false_iff_not, Bool.not_eq_true', Bool.not_eq_false', Bool.not_true, Bool.not_false, Bool.and_eq_true, Bool.or_eq_true, bne_iff_ne, beq_iff_eq, ne_eq]); (try simp only [rng, lo, hi, mnI, mxI, Int.toNat_natCast, Sg.n, Nat.mul_one, Nat.zero_add, Nat.add_zero, Nat.reduceAdd, List.getD_cons_zero, List.getD_cons_succ, one_row]))
    ((repeat' (first | (with_reducible apply And.intro) | intro _)); all_goals (first | exact trivial | (with_reducible assumption) | (show (_ : List Blk) = _; rfl) | (first | exact trivial | (with_reducible assumption) | omega | (split <;> omega) | (split <;> split <;> omega)) | skip); all_goals (try (refine ⟨rfl, (by first | exact Nat.le_refl _ | exact Nat.le_of_ble_eq_true rfl), rfl, rfl, ?_, (by repeat' (first | exact trivial | rfl | apply And.intro)), rfl, rfl⟩)))
    all_goals (try first | exact dd.2.2.2.2.1 | exact dd.2.2.2.2.2 | exact z1 | exact z2)
    · show ((rtK p g Ys rows stay eats d).2 ++ [_]).length ≤ _
      simp only [List.length_append, List.length_cons, List.length_nil]; omega
    · exact ⟨ih (d + 1) (by omega) (by omega) [0, 1, 4] _ _ ⟨rfl, rfl, rfl, (by repeat' (first | exact trivial | rfl | apply And.intro)), (by repeat' (first | exact trivial | rfl | apply And.intro)), rfl, rfl, rfl⟩⟩
  · obtain rfl : d = days.toNat := by omega
    clear ih
    refine Goes.tree Γ_ok htb 1000 true false Try.func69 rfl ?_
    ((try simp only [decide_eq_true_eq, decide_eq_false_iff_not, Bool.not_eq_true', Bool.not_eq_false', Bool.not_true, Bool.not_false, Bool.and_eq_true, Bool.or_eq_true, bne_iff_ne, beq_iff_eq, ne_eq]); (try simp only [rng, lo, hi, mnI, mxI, Int.toNat_natCast, Sg.n, Nat.mul_one, Nat.zero_add, Nat.add_zero, Nat.reduceAdd, List.getD_cons_zero, List.getD_cons_succ]))
    ((repeat' (first | (with_reducible apply And.intro) | intro _)); all_goals (first | exact trivial | (with_reducible assumption) | (show (_ : List Blk) = _; rfl) | (first | exact trivial | (with_reducible assumption) | omega | (split <;> omega) | (split <;> split <;> omega)) | skip); all_goals (try (refine ⟨rfl, (by first | exact Nat.le_refl _ | exact Nat.le_of_ble_eq_true rfl), rfl, rfl, ?_, (by repeat' (first | exact trivial | rfl | apply And.intro)), rfl, rfl⟩)))
    all_goals (first | contradiction | exact sameA_refl _ | trace_state)

/-! Sums of numbers. -/
def sumI (rows : List (List Int)) : Nat → Int
  | 0 => 0
  | i + 1 => sumI rows i + (rows.getD i []).getD 0 0
theorem sumI_rng {rows : List (List Int)} {b : Int} (hb : 0 ≤ b) (h : ∀ r ∈ rows, 0 ≤ r.getD 0 0 ∧ r.getD 0 0 ≤ b) : ∀ i, i ≤ rows.length → 0 ≤ sumI rows i ∧ sumI rows i ≤ b * i := by
  intro i
  induction i with
  | zero => intro _; simp [sumI]
  | succ i ih =>
    intro hi
    have h1 := ih (by omega)
    have h2 := h _ (getD_mem (d := []) (show i < rows.length by omega))
    unfold sumI
    have e : b * ((i + 1 : Nat) : Int) = b * i + b := by rw [Int.natCast_add, Int.mul_add]; simp
    rw [e]; omega
def sumIS : Fun
  | [.fs .i64 rows], [] => some (.i .i64 (sumI rows rows.length), [], [rows.length ≤ 1000 ∧ ∀ r ∈ rows, 0 ≤ r.getD 0 0 ∧ r.getD 0 0 ≤ 100000])
  | _, _ => .none
set_option maxRecDepth 100000 in
theorem s_sum : Sound Try.prog 68 sumIS := by
  intro args M r M' vs h hvs
  unfold sumIS at h
  split at h
  case h_2 => cases h
  rename_i rows
  cases h
  refine SpecOK.assume fun hA hM => ?_
  have htb := (TbOk.nil : TbOk Try.prog tb0)
  refine SpecOK.of_goes [] Try.func68 rfl ?_
  obtain ⟨⟨hn, hr⟩, -⟩ := hvs
  have hS := sumI_rng (b := 100000) (by decide) hr
  clear hA hM
  refine Goes.tree Γ_ok htb 1000 false false Try.func68 rfl ?_
  ((try simp only [decide_eq_true_eq, decide_eq_false_iff_not, Bool.not_eq_true', Bool.not_eq_false', Bool.not_true, Bool.not_false, Bool.and_eq_true, Bool.or_eq_true, bne_iff_ne, beq_iff_eq, ne_eq]); (try simp only [rng, lo, hi, mnI, mxI, Int.toNat_natCast, Sg.n, Nat.mul_one, Nat.zero_add, Nat.add_zero, Nat.reduceAdd, List.getD_cons_zero, List.getD_cons_succ]))
  ((repeat' (first | (with_reducible apply And.intro) | intro _)); all_goals (first | exact trivial | (with_reducible assumption) | (show (_ : List Blk) = _; rfl) | (first | exact trivial | (with_reducible assumption) | omega | (split <;> omega) | (split <;> split <;> omega)) | skip); all_goals (try (refine ⟨rfl, (by first | exact Nat.le_refl _ | exact Nat.le_of_ble_eq_true rfl), rfl, rfl, ?_, (by repeat' (first | exact trivial | rfl | apply And.intro)), rfl, rfl⟩)))
  refine ⟨?_⟩
  refine Goes.loopR (fun i : Nat => rows.length - i) (fun i => i ≤ rows.length) (fun i => (.any :: .any :: .any :: .i .i64 (sumI rows i) :: .any :: .any :: .fs .i64 rows :: .i .i64 (rows.length : Int) :: .i .i64 (i:Int) :: .any :: .any :: .any :: .any :: .any :: .any :: .any :: .any :: [])) (fun _ => []) 0 [] (Nat.zero_le _) ⟨rfl, rfl, rfl, (by repeat' (first | exact trivial | rfl | apply And.intro)), (by repeat' (first | exact trivial | rfl | apply And.intro)), rfl, rfl, rfl⟩ fun i hle ih => ?_
  have h1 := hS i hle
  by_cases hlt : i < rows.length
  · have h2 := hr _ (getD_mem (d := []) hlt)
    refine Goes.tree Γ_ok htb 1000 false false Try.func68 rfl ?_
    ((try simp only [decide_eq_true_eq, decide_eq_false_iff_not, Bool.not_eq_true', Bool.not_eq_false', Bool.not_true, Bool.not_false, Bool.and_eq_true, Bool.or_eq_true, bne_iff_ne, beq_iff_eq, ne_eq]); (try simp only [rng, lo, hi, mnI, mxI, Int.toNat_natCast, Sg.n, Nat.mul_one, Nat.zero_add, Nat.add_zero, Nat.reduceAdd, List.getD_cons_zero, List.getD_cons_succ]))
    ((repeat' (first | (with_reducible apply And.intro) | intro _)); all_goals (first | exact trivial | (with_reducible assumption) | (show (_ : List Blk) = _; rfl) | (first | exact trivial | (with_reducible assumption) | omega | (split <;> omega) | (split <;> split <;> omega)) | skip); all_goals (try (refine ⟨rfl, (by first | exact Nat.le_refl _ | exact Nat.le_of_ble_eq_true rfl), rfl, rfl, ?_, (by repeat' (first | exact trivial | rfl | apply And.intro)), rfl, rfl⟩)))
    all_goals (first | exact ⟨ih (i + 1) (by omega) (by omega) [] _ _ ⟨rfl, rfl, rfl, (by repeat' (first | exact trivial | rfl | apply And.intro)), (by repeat' (first | exact trivial | rfl | apply And.intro)), rfl, rfl, rfl⟩⟩ | trace_state)
  · obtain rfl : i = rows.length := by omega
    clear ih
    refine Goes.tree Γ_ok htb 1000 false false Try.func68 rfl ?_
    ((try simp only [decide_eq_true_eq, decide_eq_false_iff_not, Bool.not_eq_true', Bool.not_eq_false', Bool.not_true, Bool.not_false, Bool.and_eq_true, Bool.or_eq_true, bne_iff_ne, beq_iff_eq, ne_eq]); (try simp only [rng, lo, hi, mnI, mxI, Int.toNat_natCast, Sg.n, Nat.mul_one, Nat.zero_add, Nat.add_zero, Nat.reduceAdd, List.getD_cons_zero, List.getD_cons_succ]))
    ((repeat' (first | (with_reducible apply And.intro) | intro _)); all_goals (first | exact trivial | (with_reducible assumption) | (show (_ : List Blk) = _; rfl) | (first | exact trivial | (with_reducible assumption) | omega | (split <;> omega) | (split <;> split <;> omega)) | skip); all_goals (try (refine ⟨rfl, (by first | exact Nat.le_refl _ | exact Nat.le_of_ble_eq_true rfl), rfl, rfl, ?_, (by repeat' (first | exact trivial | rfl | apply And.intro)), rfl, rfl⟩)))
    all_goals (first | contradiction | exact sameA_refl _ | trace_state)
end Go.Proofs.Ytgogccconmlkiaa
