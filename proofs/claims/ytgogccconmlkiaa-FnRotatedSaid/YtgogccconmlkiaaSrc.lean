/- Draws: choices out of bytes. -/
import Derived.Test.YtgogccconmlkiaaSide
import Derived.Test.YtgogccconmlkiaaEngG
namespace Go.Proofs.Ytgogccconmlkiaa
open Go Go.Eng
set_option linter.unusedSimpArgs false
set_option linter.unusedVariables false
set_option maxRecDepth 100000
set_option maxHeartbeats 4000000

/-- The byte at a place, 0 behind the end. -/
def nbA (rows : List (List Int)) (a : Int) : Int := if a < rows.length then (rows.getD a.toNat []).getD 0 0 else 0
/-- The seed behind a draw. -/
def nsd (rows : List (List Int)) (a sd : Int) : Int :=
  IntKind.u64.wrap (IntKind.u64.wrap (IntKind.u64.wrap (sd * 6364136223846793005) + IntKind.u64.wrap (nbA rows a)) + 1442695040888963407)
/-- What is drawn. -/
def nvl (rows : List (List Int)) (a sd : Int) : Int :=
  if a + 1 ≤ rows.length then nbA rows a else IntKind.i64.wrap (bitsI .and .u64 ((nsd rows a sd).fdiv (2 ^ (min 40 IntKind.u64.bits))) 255)
theorem and255 (x : Int) : 0 ≤ bitsI .and .u64 x 255 ∧ bitsI .and .u64 x 255 ≤ 255 := by
  have h : ∀ n : Nat, n ≤ 255 → IntKind.u64.wrap (n : Int) = n := fun n hn => wrap_of_rng (by simp only [rng, lo, hi]; omega)
  have h2 : (BitVec.ofInt IntKind.u64.bits x &&& BitVec.ofInt IntKind.u64.bits 255).toNat ≤ 255 := by
    rw [BitVec.toNat_and]
    exact Nat.le_trans Nat.and_le_right (by decide)
  unfold bitsI
  dsimp only
  rw [h _ h2]
  omega
theorem nbA_rng {rows : List (List Int)} (h : RowsOk .u8 rows) (a : Int) (h0 : 0 ≤ a) : 0 ≤ nbA rows a ∧ nbA rows a ≤ 255 := by
  unfold nbA
  split
  · rename_i hlt
    have hm : rows.getD a.toNat [] ∈ rows := by
      rw [List.getD_eq_getElem?_getD, List.getElem?_eq_getElem (by omega)]; exact List.getElem_mem _
    obtain ⟨h1, h2⟩ := h _ hm
    match rows.getD a.toNat [], h1, h2 with
    | [x], _, h2 => exact h2.1
  · omega
theorem nvl_rng {rows : List (List Int)} (h : RowsOk .u8 rows) {a : Int} (sd : Int) (h0 : 0 ≤ a) : 0 ≤ nvl rows a sd ∧ nvl rows a sd ≤ 255 := by
  unfold nvl
  split
  · exact nbA_rng h a h0
  · have := and255 ((nsd rows a sd).fdiv (2 ^ (min 40 IntKind.u64.bits)))
    rw [wrap_of_rng (by simp only [rng, lo, hi]; omega)]
    exact this
theorem nsd_rng (rows : List (List Int)) (a sd : Int) : 0 ≤ nsd rows a sd ∧ nsd rows a sd ≤ 18446744073709551615 := rng_wrap .u64 _
/-- The bytes of a source are bytes. -/
structure SrcOk (rows : List (List Int)) : Prop where
  ok : RowsOk .u8 rows
def nextS : Fun
  | [.rp 0 0 3 172], [.r [.fs .u8 rows, .i .i64 a, .i .u64 sd]] => some (.i .i64 (nvl rows a sd), [.r [.fs .u8 rows, .i .i64 (a + 1), .i .u64 (nsd rows a sd)]], [0 ≤ a ∧ a ≤ 1000000000 ∧ SrcOk rows])
  | _, _ => .none
set_option maxRecDepth 100000 in
theorem s_next : Sound Try.prog 143 nextS := by
  intro args M r M' vs h hvs
  unfold nextS at h
  split at h
  case h_2 => cases h
  rename_i rows a sd
  cases h
  refine SpecOK.assume fun hA hM => ?_
  have htb := (TbOk.nil : TbOk Try.prog tb0)
  refine SpecOK.of_goes [0] Try.func143 rfl ?_
  obtain ⟨⟨h0, h1, hR⟩, -⟩ := hvs
  clear hA hM
  have hw : IntKind.i64.wrap (a + 1) = a + 1 := wrap_of_rng (by simp only [rng, lo, hi]; omega)
  have hb := nbA_rng hR.ok a h0
  have hwb : IntKind.i64.wrap (nbA rows a) = nbA rows a := wrap_of_rng (by simp only [rng, lo, hi]; omega)
  have hsr := nsd_rng rows a sd
  have hsh := shr_rng (min (Int.toNat 40) IntKind.u64.bits) hsr.1 hsr.2
  by_cases hlt : a < rows.length
  · have e1 : (rows.getD a.toNat []).getD 0 0 = nbA rows a := (if_pos hlt).symm
    have e2 : IntKind.u64.wrap (IntKind.u64.wrap (IntKind.u64.wrap (sd * 6364136223846793005) + IntKind.u64.wrap (nbA rows a)) + 1442695040888963407) = nsd rows a sd := rfl
    have e3 : nvl rows a sd = nbA rows a := if_pos (by omega)
    refine Goes.tree Γ_ok htb 1000 false true Try.func143 rfl ?_
    ((try simp only [decide_eq_true_eq, decide_eq_false_iff_not, Bool.not_eq_true', Bool.not_eq_false', Bool.not_true, Bool.not_false, Bool.and_eq_true, Bool.or_eq_true, bne_iff_ne, beq_iff_eq, ne_eq]); (try simp only [rng, lo, hi, mnI, mxI, Int.toNat_natCast, Sg.n, Nat.mul_one, Nat.zero_add, Nat.add_zero, Nat.reduceAdd, List.getD_cons_zero, List.getD_cons_succ, hw, e1, hwb, e2]))
    ((repeat' (first | (with_reducible apply And.intro) | intro _)); all_goals (first | exact trivial | (with_reducible assumption) | (show (_ : List Blk) = _; rfl) | (first | exact trivial | (with_reducible assumption) | omega | (split <;> omega) | (split <;> split <;> omega)) | skip); all_goals (try (refine ⟨rfl, (by first | exact Nat.le_refl _ | exact Nat.le_of_ble_eq_true rfl), rfl, rfl, ?_, (by repeat' (first | exact trivial | rfl | apply And.intro)), rfl, rfl⟩)))
    all_goals (try first | omega | contradiction)
    all_goals (rw [e3]; exact sameA_refl _)
  · have e0 : nbA rows a = 0 := if_neg hlt
    have e2 : IntKind.u64.wrap (IntKind.u64.wrap (IntKind.u64.wrap (sd * 6364136223846793005) + IntKind.u64.wrap 0) + 1442695040888963407) = nsd rows a sd := by unfold nsd; rw [e0]
    have e3 : nvl rows a sd = IntKind.i64.wrap (bitsI .and .u64 ((nsd rows a sd).fdiv (2 ^ (min 40 IntKind.u64.bits))) 255) := if_neg (by omega)
    refine Goes.tree Γ_ok htb 1000 false true Try.func143 rfl ?_
    ((try simp only [decide_eq_true_eq, decide_eq_false_iff_not, Bool.not_eq_true', Bool.not_eq_false', Bool.not_true, Bool.not_false, Bool.and_eq_true, Bool.or_eq_true, bne_iff_ne, beq_iff_eq, ne_eq]); (try simp only [rng, lo, hi, mnI, mxI, Int.toNat_natCast, Sg.n, Nat.mul_one, Nat.zero_add, Nat.add_zero, Nat.reduceAdd, List.getD_cons_zero, List.getD_cons_succ, hw, e2]))
    ((repeat' (first | (with_reducible apply And.intro) | intro _)); all_goals (first | exact trivial | (with_reducible assumption) | (show (_ : List Blk) = _; rfl) | (first | exact trivial | (with_reducible assumption) | omega | (split <;> omega) | (split <;> split <;> omega)) | skip); all_goals (try (refine ⟨rfl, (by first | exact Nat.le_refl _ | exact Nat.le_of_ble_eq_true rfl), rfl, rfl, ?_, (by repeat' (first | exact trivial | rfl | apply And.intro)), rfl, rfl⟩)))
    all_goals (try first | omega | contradiction)
    all_goals (rw [e3]; exact sameA_refl _)

/-! Numbers below a bound. -/
def pkv (rows : List (List Int)) (a sd n : Int) : Int := if n ≤ 1 then 0 else (nvl rows a sd).tmod n
def pka (a n : Int) : Int := if n ≤ 1 then a else a + 1
def pks (rows : List (List Int)) (a sd n : Int) : Int := if n ≤ 1 then sd else nsd rows a sd
theorem pkv_rng {rows : List (List Int)} (h : RowsOk .u8 rows) {a : Int} (sd : Int) {n : Int} (h0 : 0 ≤ a) : 0 ≤ pkv rows a sd n ∧ (1 ≤ n → pkv rows a sd n < n) ∧ pkv rows a sd n ≤ 255 := by
  have h1 := nvl_rng h sd h0
  unfold pkv
  split
  · omega
  · have h2 : (nvl rows a sd).tmod n = (nvl rows a sd) % n := Int.tmod_eq_emod_of_nonneg h1.1
    have h3 := Int.emod_nonneg (nvl rows a sd) (show n ≠ 0 by omega)
    have h4 := Int.emod_lt_of_pos (nvl rows a sd) (show 0 < n by omega)
    have h5 : (nvl rows a sd) % n ≤ nvl rows a sd := by
      by_cases hx : nvl rows a sd < n
      · rw [Int.emod_eq_of_lt h1.1 hx]; exact Int.le_refl _
      · omega
    rw [h2]; omega
def pickS : Fun
  | [.rp 0 0 3 172, .i .i64 n], [.r [.fs .u8 rows, .i .i64 a, .i .u64 sd]] => some (.i .i64 (pkv rows a sd n), [.r [.fs .u8 rows, .i .i64 (pka a n), .i .u64 (pks rows a sd n)]], [0 ≤ a ∧ a ≤ 1000000000 ∧ SrcOk rows ∧ n ≤ 200])
  | _, _ => .none
set_option maxRecDepth 100000 in
theorem s_pick0 : Sound Try.prog 91 pickS := by
  intro args M r M' vs h hvs
  unfold pickS at h
  split at h
  case h_2 => cases h
  rename_i n rows a sd
  cases h
  refine SpecOK.assume fun hA hM => ?_
  have htb := (TbOk.cons s_next Try.func143 rfl rfl (TbOk.nil : TbOk Try.prog tb0))
  refine SpecOK.of_goes [0] Try.func91 rfl ?_
  obtain ⟨⟨h0, h1, hR, hn⟩, -⟩ := hvs
  have hsd := hM
  clear hA hM
  have hv := nvl_rng hR.ok sd h0
  have hp := pkv_rng hR.ok sd (n := n) h0
  by_cases hn1 : n ≤ 1
  · have e1 : pkv rows a sd n = 0 := if_pos hn1
    have e2 : pka a n = a := if_pos hn1
    have e3 : pks rows a sd n = sd := if_pos hn1
    rw [e1, e2, e3]
    refine Goes.tree Γ_ok htb 1000 false false Try.func91 rfl ?_
    ((try simp only [decide_eq_true_eq, decide_eq_false_iff_not, Bool.not_eq_true', Bool.not_eq_false', Bool.not_true, Bool.not_false, Bool.and_eq_true, Bool.or_eq_true, bne_iff_ne, beq_iff_eq, ne_eq]); (try simp only [rng, lo, hi, mnI, mxI, Int.toNat_natCast, Sg.n, Nat.mul_one, Nat.zero_add, Nat.add_zero, Nat.reduceAdd, List.getD_cons_zero, List.getD_cons_succ]))
    ((repeat' (first | (with_reducible apply And.intro) | intro _)); all_goals (first | exact trivial | (with_reducible assumption) | (show (_ : List Blk) = _; rfl) | (first | exact trivial | (with_reducible assumption) | omega | (split <;> omega) | (split <;> split <;> omega)) | skip); all_goals (try (refine ⟨rfl, (by first | exact Nat.le_refl _ | exact Nat.le_of_ble_eq_true rfl), rfl, rfl, ?_, (by repeat' (first | exact trivial | rfl | apply And.intro)), rfl, rfl⟩)))
    all_goals (try first | omega | contradiction)
    all_goals exact sameA_refl _
  · have e1 : pkv rows a sd n = (nvl rows a sd).tmod n := if_neg hn1
    have e2 : pka a n = a + 1 := if_neg hn1
    have e3 : pks rows a sd n = nsd rows a sd := if_neg hn1
    rw [e1, e2, e3]
    rw [e1] at hp
    refine Goes.tree Γ_ok htb 1000 false false Try.func91 rfl ?_
    ((try simp only [decide_eq_true_eq, decide_eq_false_iff_not, Bool.not_eq_true', Bool.not_eq_false', Bool.not_true, Bool.not_false, Bool.and_eq_true, Bool.or_eq_true, bne_iff_ne, beq_iff_eq, ne_eq]); (try simp only [rng, lo, hi, mnI, mxI, Int.toNat_natCast, Sg.n, Nat.mul_one, Nat.zero_add, Nat.add_zero, Nat.reduceAdd, List.getD_cons_zero, List.getD_cons_succ]))
    ((repeat' (first | (with_reducible apply And.intro) | intro _)); all_goals (first | exact trivial | (with_reducible assumption) | (show (_ : List Blk) = _; rfl) | (first | exact trivial | (with_reducible assumption) | omega | (split <;> omega) | (split <;> split <;> omega)) | skip); all_goals (try (refine ⟨rfl, (by first | exact Nat.le_refl _ | exact Nat.le_of_ble_eq_true rfl), rfl, rfl, ?_, (by repeat' (first | exact trivial | rfl | apply And.intro)), rfl, rfl⟩)))
    all_goals (try first | omega | contradiction)
    all_goals exact sameA_refl _
theorem s_pick : Sound Try.prog 91 (kill pickS) := kill_sound s_pick0
def oneBS : Fun
  | [.rp 0 0 3 172, .i .i64 n], [.r [.fs .u8 rows, .i .i64 a, .i .u64 sd]] => some (.b (decide (pkv rows a sd n = 0)), [.r [.fs .u8 rows, .i .i64 (pka a n), .i .u64 (pks rows a sd n)]], [0 ≤ a ∧ a ≤ 1000000000 ∧ SrcOk rows ∧ n ≤ 200])
  | _, _ => .none
set_option maxRecDepth 100000 in
theorem s_one : Sound Try.prog 132 oneBS := by
  intro args M r M' vs h hvs
  unfold oneBS at h
  split at h
  case h_2 => cases h
  rename_i n rows a sd
  cases h
  refine SpecOK.assume fun hA hM => ?_
  have htb := (TbOk.cons s_pick Try.func91 rfl rfl (TbOk.nil : TbOk Try.prog tb0))
  refine SpecOK.of_goes [0] Try.func132 rfl ?_
  obtain ⟨⟨h0, h1, hR, hn⟩, -⟩ := hvs
  clear hA hM
  refine Goes.tree Γ_ok htb 1000 false false Try.func132 rfl ?_
  ((try simp only [decide_eq_true_eq, decide_eq_false_iff_not, Bool.not_eq_true', Bool.not_eq_false', Bool.not_true, Bool.not_false, Bool.and_eq_true, Bool.or_eq_true, bne_iff_ne, beq_iff_eq, ne_eq]); (try simp only [rng, lo, hi, mnI, mxI, Int.toNat_natCast, Sg.n, Nat.mul_one, Nat.zero_add, Nat.add_zero, Nat.reduceAdd, List.getD_cons_zero, List.getD_cons_succ]))
  ((repeat' (first | (with_reducible apply And.intro) | intro _)); all_goals (first | exact trivial | (with_reducible assumption) | (show (_ : List Blk) = _; rfl) | (first | exact trivial | (with_reducible assumption) | omega | (split <;> omega) | (split <;> split <;> omega)) | skip); all_goals (try (refine ⟨rfl, (by first | exact Nat.le_refl _ | exact Nat.le_of_ble_eq_true rfl), rfl, rfl, ?_, (by repeat' (first | exact trivial | rfl | apply And.intro)), rfl, rfl⟩)))
  all_goals (try first | omega | contradiction)
  all_goals exact sameA_refl _
def amoS : Fun
  | [.rp 0 0 3 172, .ow 1 n .i64 2], [.r [.fs .u8 rows, .i .i64 a, .i .u64 sd], .l .i64 l] => some (.i .i64 ((l.getD (pkv rows a sd n).toNat []).getD 0 0), [.r [.fs .u8 rows, .i .i64 (pka a n), .i .u64 (pks rows a sd n)], .dead], [0 ≤ a ∧ a ≤ 1000000000 ∧ SrcOk rows ∧ n = l.length ∧ 0 < l.length ∧ l.length ≤ 200])
  | _, _ => .none
set_option maxRecDepth 100000 in
theorem s_among : Sound Try.prog 134 amoS := by
  intro args M r M' vs h hvs
  unfold amoS at h
  split at h
  case h_2 => cases h
  rename_i n rows a sd l
  cases h
  refine SpecOK.assume fun hA hM => ?_
  have htb := (TbOk.cons s_pick Try.func91 rfl rfl (TbOk.nil : TbOk Try.prog tb0))
  refine SpecOK.of_goes [0, 1] Try.func134 rfl ?_
  obtain ⟨⟨h0, h1, hR, rfl, hl0, hl1⟩, -⟩ := hvs
  clear hA hM
  have hp := pkv_rng hR.ok sd (n := (l.length : Int)) h0
  refine Goes.tree Γ_ok htb 1000 false false Try.func134 rfl ?_
  ((try simp only [decide_eq_true_eq, decide_eq_false_iff_not, Bool.not_eq_true', Bool.not_eq_false', Bool.not_true, Bool.not_false, Bool.and_eq_true, Bool.or_eq_true, bne_iff_ne, beq_iff_eq, ne_eq]); (try simp only [rng, lo, hi, mnI, mxI, Int.toNat_natCast, Sg.n, Nat.mul_one, Nat.zero_add, Nat.add_zero, Nat.reduceAdd, List.getD_cons_zero, List.getD_cons_succ]))
  ((repeat' (first | (with_reducible apply And.intro) | intro _)); all_goals (first | exact trivial | (with_reducible assumption) | (show (_ : List Blk) = _; rfl) | (first | exact trivial | (with_reducible assumption) | omega | (split <;> omega) | (split <;> split <;> omega)) | skip); all_goals (try (refine ⟨rfl, (by first | exact Nat.le_refl _ | exact Nat.le_of_ble_eq_true rfl), rfl, rfl, ?_, (by repeat' (first | exact trivial | rfl | apply And.intro)), rfl, rfl⟩)))
  all_goals (try first | omega | contradiction)
  all_goals exact sameA_refl _
def fromS : Fun
  | [.fs .u8 rows], [] => some (.rp 0 0 3 172, [.r [.fs .u8 rows, .i .i64 0, .i .u64 0]], [])
  | _, _ => .none
set_option maxRecDepth 100000 in
theorem s_from : Sound Try.prog 73 fromS := by
  intro args M r M' vs h hvs
  unfold fromS at h
  split at h
  case h_2 => cases h
  rename_i rows
  cases h
  refine SpecOK.assume fun hA hM => ?_
  have htb := (TbOk.nil : TbOk Try.prog tb0)
  refine SpecOK.of_goes [0] Try.func73 rfl ?_
  clear hA hM
  refine Goes.tree Γ_ok htb 1000 false false Try.func73 rfl ?_
  ((try simp only [decide_eq_true_eq, decide_eq_false_iff_not, Bool.not_eq_true', Bool.not_eq_false', Bool.not_true, Bool.not_false, Bool.and_eq_true, Bool.or_eq_true, bne_iff_ne, beq_iff_eq, ne_eq]); (try simp only [rng, lo, hi, mnI, mxI, Int.toNat_natCast, Sg.n, Nat.mul_one, Nat.zero_add, Nat.add_zero, Nat.reduceAdd, List.getD_cons_zero, List.getD_cons_succ]))
  ((repeat' (first | (with_reducible apply And.intro) | intro _)); all_goals (first | exact trivial | (with_reducible assumption) | (show (_ : List Blk) = _; rfl) | (first | exact trivial | (with_reducible assumption) | omega | (split <;> omega) | (split <;> split <;> omega)) | skip); all_goals (try (refine ⟨rfl, (by first | exact Nat.le_refl _ | exact Nat.le_of_ble_eq_true rfl), rfl, rfl, ?_, (by repeat' (first | exact trivial | rfl | apply And.intro)), rfl, rfl⟩)))
  all_goals exact sameA_refl _
end Go.Proofs.Ytgogccconmlkiaa
