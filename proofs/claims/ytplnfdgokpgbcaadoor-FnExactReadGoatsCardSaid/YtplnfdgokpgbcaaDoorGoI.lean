/- The text of goats: the program. -/
import Derived.Test.YtplnfdgokpgbcaaDoorGoT
import Derived.Test.YtplnfdgokpgbcaaDoorBld
namespace Go.Proofs.YtplnfdgokpgbcaaDoor
open Go Go.Eng
set_option linter.unusedSimpArgs false
set_option linter.unusedVariables false
set_option maxRecDepth 100000
set_option maxHeartbeats 4000000

/-- What has been written. -/
def bufK (f : Nat → ByteArray) : Nat → List (List Int)
  | 0 => []
  | i + 1 => bufK f i ++ strRows (f i)
def catT (f : Nat → ByteArray) : Nat → ByteArray
  | 0 => ⟨#[]⟩
  | i + 1 => catT f i ++ f i
theorem buf_text (f : Nat → ByteArray) : ∀ i, bytesR (bufK f i) = catT f i := by
  intro i
  induction i with
  | zero => rfl
  | succ i ih => unfold bufK catT; rw [bytes_app, bytes_str, ih]
theorem buf_len (f : Nat → ByteArray) : ∀ i, (bufK f i).length = (catT f i).size := by
  intro i
  induction i with
  | zero => rfl
  | succ i ih => unfold bufK catT; rw [List.length_append, strRows_len, ByteArray.size_append, ih]
/-- Memory: the builder after i rounds. -/
def bldM (f : Nat → ByteArray) : Nat → List Blk
  | 0 => [.r [.np, .nsl]]
  | i + 1 => [.r [.rp 0 0 2 85, .ow 1 (bufK f (i + 1)).length .u8 5], .l .u8 (bufK f (i + 1))]

def decTS : Fun
  | [.i .i64 n], [] => some (.s (digS n.toNat), [], [0 ≤ n ∧ n ≤ 1000000])
  | _, _ => .none
set_option maxRecDepth 100000 in
theorem s_decT : Sound Tryd.prog 37 decTS := by
  intro args M r M' vs h hvs
  unfold decTS at h
  split at h
  case h_2 => cases h
  rename_i n
  cases h
  refine SpecOK.assume fun hA hM => ?_
  have htb := (TbOk.cons s_fmtT Tryd.func80 rfl rfl (TbOk.nil : TbOk Tryd.prog tb0))
  refine SpecOK.of_goes [] Tryd.func37 rfl ?_
  obtain ⟨⟨h0, h1⟩, -⟩ := hvs
  clear hA hM
  refine Goes.tree Γ_ok htb 1000 false false Tryd.func37 rfl ?_
  ((try simp only [decide_eq_true_eq, decide_eq_false_iff_not, Bool.not_eq_true', Bool.not_eq_false', Bool.not_true, Bool.not_false, Bool.and_eq_true, Bool.or_eq_true, bne_iff_ne, beq_iff_eq, ne_eq]); (try simp only [rng, lo, hi, mnI, mxI, Int.toNat_natCast, Sg.n, Nat.mul_one, Nat.zero_add, Nat.add_zero, Nat.reduceAdd, List.getD_cons_zero, List.getD_cons_succ]))
  ((repeat' (first | (with_reducible apply And.intro) | intro _)); all_goals (first | exact trivial | (with_reducible assumption) | (show (_ : List Blk) = _; rfl) | (first | exact trivial | (with_reducible assumption) | omega | (split <;> omega) | (split <;> split <;> omega)) | skip); all_goals (try (refine ⟨rfl, (by first | exact Nat.le_refl _ | exact Nat.le_of_ble_eq_true rfl), rfl, rfl, ?_, (by repeat' (first | exact trivial | rfl | apply And.intro)), rfl, rfl⟩)))
  all_goals (first | exact sameA_refl _ | trace_state)
def likS : Fun
  | [], [] => some (.ow 0 2 .str 9, [.s [⟨#[114, 105, 99, 104]⟩, ⟨#[110, 101, 97, 114]⟩]], [])
  | _, _ => .none
set_option maxRecDepth 100000 in
theorem s_likings : Sound Tryd.prog 48 likS := by
  intro args M r M' vs h hvs
  unfold likS at h
  split at h
  case h_2 => cases h
  cases h
  refine SpecOK.assume fun hA hM => ?_
  have htb := (TbOk.nil : TbOk Tryd.prog tb0)
  refine SpecOK.of_goes [0] Tryd.func48 rfl ?_
  clear hA hM
  refine Goes.tree Γ_ok htb 1000 false false Tryd.func48 rfl ?_
  ((try simp only [decide_eq_true_eq, decide_eq_false_iff_not, Bool.not_eq_true', Bool.not_eq_false', Bool.not_true, Bool.not_false, Bool.and_eq_true, Bool.or_eq_true, bne_iff_ne, beq_iff_eq, ne_eq]); (try simp only [rng, lo, hi, mnI, mxI, Int.toNat_natCast, Sg.n, Nat.mul_one, Nat.zero_add, Nat.add_zero, Nat.reduceAdd, List.getD_cons_zero, List.getD_cons_succ]))
  ((repeat' (first | (with_reducible apply And.intro) | intro _)); all_goals (first | exact trivial | (with_reducible assumption) | (show (_ : List Blk) = _; rfl) | (first | exact trivial | (with_reducible assumption) | omega | (split <;> omega) | (split <;> split <;> omega)) | skip); all_goals (try (refine ⟨rfl, (by first | exact Nat.le_refl _ | exact Nat.le_of_ble_eq_true rfl), rfl, rfl, ?_, (by repeat' (first | exact trivial | rfl | apply And.intro)), rfl, rfl⟩)))
  all_goals exact sameA_refl _
/-- The line of a goat. -/
def tieT (g : List Int) : ByteArray := if 0 ≤ g.getD 4 0 then spT (g.drop 2) ++ ⟨#[126]⟩ ++ digS (g.getD 4 0).toNat else ⟨#[102, 114, 101, 101]⟩
def likW (g : List Int) : ByteArray := if g.getD 6 0 = 0 then ⟨#[114, 105, 99, 104]⟩ else ⟨#[110, 101, 97, 114]⟩
def linT (g : List Int) : ByteArray := spT g ++ ⟨#[32]⟩ ++ tieT g ++ ⟨#[32]⟩ ++ digS (g.getD 5 0).toNat ++ ⟨#[32]⟩ ++ likW g ++ ⟨#[10]⟩
theorem lin_go (rows : List (List Int)) : ∀ i, catT (fun i => linT (rows.getD i [])) i = goT rows i := by
  intro i
  induction i with
  | zero => rfl
  | succ i ih =>
    unfold catT goT
    rw [ih]
    unfold linT tieT ropT likT likW
    rw [ByteArray.ext_iff]
    apply Array.ext'
    split <;> split <;> split <;> first | omega | (simp; done) | skip
theorem lin_len {rows : List (List Int)} (h : rows.any nogG = false) (h7 : ∀ g ∈ rows, g.length = 7) (i : Nat) (hi : i < rows.length) : 0 < (linT (rows.getD i [])).size ∧ (linT (rows.getD i [])).size ≤ 1000 * (i + 1) := by
  have h1 := goT_len h h7 (i + 1) hi
  rw [← lin_go] at h1
  unfold catT at h1
  rw [ByteArray.size_append] at h1
  refine ⟨?_, by omega⟩
  unfold linT
  simp only [ByteArray.size_append, szb]; omega
theorem goa_long {rows : List (List Int)} (h : 20 < rows.length) : goaT rows = ⟨#[]⟩ := if_neg fun g => by omega
theorem goa_any {rows : List (List Int)} (h : rows.any nogG = true) : goaT rows = ⟨#[]⟩ := if_neg fun g => by rw [h] at g; cases g.2
set_option maxRecDepth 100000 in
theorem s_implGoats : Sound Tryd.prog 15 goaS := by
  intro args M r M' vs h hvs
  unfold goaS at h
  split at h
  case h_2 => cases h
  rename_i rows
  cases h
  refine SpecOK.assume fun hA hM => ?_
  have htb := (TbOk.cons s_hasOutG Tryd.func42 rfl rfl (TbOk.cons s_text Tryd.func46 rfl rfl (TbOk.cons s_decT Tryd.func37 rfl rfl (TbOk.cons s_likings Tryd.func48 rfl rfl (TbOk.cons s_wr Tryd.func47 rfl rfl (TbOk.cons s_str Tryd.func49 rfl rfl (TbOk.nil : TbOk Tryd.prog tb0)))))))
  refine SpecOK.of_goes [] Tryd.func15 rfl ?_
  obtain ⟨hl, -⟩ := hvs
  have hR : RowsOk .goat rows := hA.2.1
  have h7 : ∀ g ∈ rows, g.length = 7 := fun g hg => (hR g hg).1
  clear hA hM
  refine Goes.tree Γ_ok htb 1000 false false Tryd.func15 rfl ?_
  ((try simp only [decide_eq_true_eq, decide_eq_false_iff_not, Bool.not_eq_true', Bool.not_eq_false', Bool.not_true, Bool.not_false, Bool.and_eq_true, Bool.or_eq_true, bne_iff_ne, beq_iff_eq, ne_eq]); (try simp only [rng, lo, hi, mnI, mxI, Int.toNat_natCast, Sg.n, Nat.mul_one, Nat.zero_add, Nat.add_zero, Nat.reduceAdd, List.getD_cons_zero, List.getD_cons_succ]))
  ((repeat' (first | (with_reducible apply And.intro) | intro _)); all_goals (first | exact trivial | (with_reducible assumption) | (show (_ : List Blk) = _; rfl) | (first | exact trivial | (with_reducible assumption) | omega | (split <;> omega) | (split <;> split <;> omega)) | skip); all_goals (try (refine ⟨rfl, (by first | exact Nat.le_refl _ | exact Nat.le_of_ble_eq_true rfl), rfl, rfl, ?_, (by repeat' (first | exact trivial | rfl | apply And.intro)), rfl, rfl⟩)))
  · rw [goa_long (by omega)]; exact sameA_refl _
  · rw [goa_any (by assumption)]; exact sameA_refl _
  rename_i h20 hany
  have hgl := goT_len hany h7
  refine ⟨?_⟩
  refine Goes.loopR (fun i : Nat => rows.length - i) (fun i => i ≤ rows.length) (fun i => (.any :: .any :: .any :: .rp 0 0 2 85 :: .any :: .any :: .any :: .any :: .any :: .any :: .any :: .any :: .any :: .any :: .any :: .fs .goat rows :: .i .i64 (rows.length : Int) :: .i .i64 (i:Int) :: .any :: .any :: .any :: .any :: .any :: .any :: .any :: .any :: .any :: .any :: .any :: .any :: .any :: .any :: .any :: .any :: .any :: .any :: .any :: .any :: .any :: .any :: .any :: .any :: .any :: .any :: .any :: .any :: .any :: .any :: .any :: .any :: .any :: .any :: .any :: .any :: .any :: .any :: [])) (fun i => bldM (fun i => linT (rows.getD i [])) i) 0 [0] (Nat.zero_le _) ⟨rfl, rfl, rfl, (by repeat' (first | exact trivial | rfl | apply And.intro)), (by repeat' (first | exact trivial | rfl | apply And.intro)), rfl, rfl, rfl⟩ fun i hib ih => ?_
  have hgi := hgl i hib
  rw [← lin_go, ← buf_len] at hgi
  have hok : goaT rows = goT rows rows.length := if_pos ⟨by omega, hany⟩
  by_cases hlt : i < rows.length
  · have hm := getD_memT hlt
    obtain ⟨a, b, c, d, e, f, q, e3⟩ := len7 (h7 _ hm)
    have hn := List.any_eq_false.1 hany _ hm
    have hn : nogG (rows.getD i []) = false := by simpa using hn
    have hll := lin_len hany h7 i hlt
    rw [e3] at hn
    obtain ⟨g1, g2, g3⟩ := nog_iff.1 hn
    have g4 := plG_iff.1 g3
    have t1 : spT (List.take 2 (List.drop 0 [a, b, c, d, e, f, q])) = spT [a, b, c, d, e, f, q] := rfl
    have t2 : spT (List.take 2 (List.drop 2 [a, b, c, d, e, f, q])) = spT [c, d, e, f, q] := rfl
    have i1 : inF (List.take 2 (List.drop 0 [a, b, c, d, e, f, q])) = true := inF_iff.2 g1
    have i2 : inF (List.take 2 (List.drop 2 [a, b, c, d, e, f, q])) = true := inF_iff.2 g2
    have s1 : (spT [a, b, c, d, e, f, q]).size ≤ 21 := spT_len (inF_iff.2 g1)
    have s2 : (spT [c, d, e, f, q]).size ≤ 21 := spT_len (inF_iff.2 g2)
    have d1 := dig_len e.toNat
    have d2 := dig_len f.toNat
    have z4 : (ByteArray.mk #[102, 114, 101, 101]).size = 4 := rfl
    have z5 : (ByteArray.mk #[114, 105, 99, 104]).size = 4 := rfl
    have z6 : (ByteArray.mk #[110, 101, 97, 114]).size = 4 := rfl
    have eL : linT [a, b, c, d, e, f, q] = spT [a, b, c, d, e, f, q] ++ ⟨#[32]⟩ ++ tieT [a, b, c, d, e, f, q] ++ ⟨#[32]⟩ ++ digS f.toNat ++ ⟨#[32]⟩ ++ likW [a, b, c, d, e, f, q] ++ ⟨#[10]⟩ := rfl
    have eT : tieT [a, b, c, d, e, f, q] = if 0 ≤ e then spT [c, d, e, f, q] ++ ⟨#[126]⟩ ++ digS e.toNat else ⟨#[102, 114, 101, 101]⟩ := rfl
    have eW : likW [a, b, c, d, e, f, q] = if q = 0 then ⟨#[114, 105, 99, 104]⟩ else ⟨#[110, 101, 97, 114]⟩ := rfl
    rw [e3] at hll
    have ihs := ih (i + 1) (by omega) (by omega)
    have eb : bufK (fun i => linT (rows.getD i [])) (i + 1) = bufK (fun i => linT (rows.getD i [])) i ++ strRows (linT (rows.getD i [])) := rfl
    have eM : bldM (fun i => linT (rows.getD i [])) (i + 1) = [.r [.rp 0 0 2 85, .ow 1 (bufK (fun i => linT (rows.getD i [])) (i + 1)).length .u8 5], .l .u8 (bufK (fun i => linT (rows.getD i [])) (i + 1))] := rfl
    simp only [eM, eb, e3] at ihs
    clear ih eb eM
    have r0 : List.getD [(⟨#[114, 105, 99, 104]⟩ : ByteArray), ⟨#[110, 101, 97, 114]⟩] (Int.toNat 0) ByteArray.empty = ⟨#[114, 105, 99, 104]⟩ := rfl
    have r1 : List.getD [(⟨#[114, 105, 99, 104]⟩ : ByteArray), ⟨#[110, 101, 97, 114]⟩] (Int.toNat 1) ByteArray.empty = ⟨#[110, 101, 97, 114]⟩ := rfl
    have hq : q = 0 ∨ q = 1 := by omega
    by_cases he : 0 ≤ e
    · rw [if_pos he] at eT
      rcases hq with rfl | rfl
      · rw [if_pos rfl] at eW
        rw [eT, eW] at eL
        have eL := eL.symm
        cases i with
        | zero =>
          refine Goes.tree Γ_ok htb 1000 false false Tryd.func15 rfl ?_
          ((try simp only [decide_eq_true_eq, decide_eq_false_iff_not, Bool.not_eq_true', Bool.not_eq_false', Bool.not_true, Bool.not_false, Bool.and_eq_true, Bool.or_eq_true, bne_iff_ne, beq_iff_eq, ne_eq]); (try simp only [rng, lo, hi, mnI, mxI, Int.toNat_natCast, Sg.n, Nat.mul_one, Nat.zero_add, Nat.add_zero, Nat.reduceAdd, List.getD_cons_zero, List.getD_cons_succ, e3, t1, t2, i1, i2, r0, r1, eL]))
          ((repeat' (first | (with_reducible apply And.intro) | intro _)); all_goals (first | exact trivial | (with_reducible assumption) | (show (_ : List Blk) = _; rfl) | (first | exact trivial | (with_reducible assumption) | omega | (split <;> omega) | (split <;> split <;> omega)) | skip); all_goals (try (refine ⟨rfl, (by first | exact Nat.le_refl _ | exact Nat.le_of_ble_eq_true rfl), rfl, rfl, ?_, (by repeat' (first | exact trivial | rfl | apply And.intro)), rfl, rfl⟩)))
          all_goals (try first | omega | (show _ ≤ 9223372036854775807; first | omega | (simp only [ByteArray.size_append, szb, z4, z5, z6]; omega)))
          exact ⟨ihs [0, 3] _ _ ⟨rfl, rfl, rfl, (by repeat' (first | exact trivial | rfl | apply And.intro)), (by repeat' (first | exact trivial | rfl | apply And.intro)), rfl, rfl, rfl⟩⟩
        | succ i =>
          refine Goes.tree Γ_ok htb 1000 false false Tryd.func15 rfl ?_
          ((try simp only [decide_eq_true_eq, decide_eq_false_iff_not, Bool.not_eq_true', Bool.not_eq_false', Bool.not_true, Bool.not_false, Bool.and_eq_true, Bool.or_eq_true, bne_iff_ne, beq_iff_eq, ne_eq]); (try simp only [rng, lo, hi, mnI, mxI, Int.toNat_natCast, Sg.n, Nat.mul_one, Nat.zero_add, Nat.add_zero, Nat.reduceAdd, List.getD_cons_zero, List.getD_cons_succ, e3, t1, t2, i1, i2, r0, r1, eL]))
          ((repeat' (first | (with_reducible apply And.intro) | intro _)); all_goals (first | exact trivial | (with_reducible assumption) | (show (_ : List Blk) = _; rfl) | (first | exact trivial | (with_reducible assumption) | omega | (split <;> omega) | (split <;> split <;> omega)) | skip); all_goals (try (refine ⟨rfl, (by first | exact Nat.le_refl _ | exact Nat.le_of_ble_eq_true rfl), rfl, rfl, ?_, (by repeat' (first | exact trivial | rfl | apply And.intro)), rfl, rfl⟩)))
          all_goals (try first | omega | (show _ ≤ 9223372036854775807; first | omega | (simp only [ByteArray.size_append, szb, z4, z5, z6]; omega)))
          exact ⟨ihs [0, 4] _ _ ⟨rfl, rfl, rfl, (by repeat' (first | exact trivial | rfl | apply And.intro)), (by repeat' (first | exact trivial | rfl | apply And.intro)), rfl, rfl, rfl⟩⟩
      · rw [if_neg (by decide)] at eW
        rw [eT, eW] at eL
        have eL := eL.symm
        cases i with
        | zero =>
          refine Goes.tree Γ_ok htb 1000 false false Tryd.func15 rfl ?_
          ((try simp only [decide_eq_true_eq, decide_eq_false_iff_not, Bool.not_eq_true', Bool.not_eq_false', Bool.not_true, Bool.not_false, Bool.and_eq_true, Bool.or_eq_true, bne_iff_ne, beq_iff_eq, ne_eq]); (try simp only [rng, lo, hi, mnI, mxI, Int.toNat_natCast, Sg.n, Nat.mul_one, Nat.zero_add, Nat.add_zero, Nat.reduceAdd, List.getD_cons_zero, List.getD_cons_succ, e3, t1, t2, i1, i2, r0, r1, eL]))
          ((repeat' (first | (with_reducible apply And.intro) | intro _)); all_goals (first | exact trivial | (with_reducible assumption) | (show (_ : List Blk) = _; rfl) | (first | exact trivial | (with_reducible assumption) | omega | (split <;> omega) | (split <;> split <;> omega)) | skip); all_goals (try (refine ⟨rfl, (by first | exact Nat.le_refl _ | exact Nat.le_of_ble_eq_true rfl), rfl, rfl, ?_, (by repeat' (first | exact trivial | rfl | apply And.intro)), rfl, rfl⟩)))
          all_goals (try first | omega | (show _ ≤ 9223372036854775807; first | omega | (simp only [ByteArray.size_append, szb, z4, z5, z6]; omega)))
          exact ⟨ihs [0, 3] _ _ ⟨rfl, rfl, rfl, (by repeat' (first | exact trivial | rfl | apply And.intro)), (by repeat' (first | exact trivial | rfl | apply And.intro)), rfl, rfl, rfl⟩⟩
        | succ i =>
          refine Goes.tree Γ_ok htb 1000 false false Tryd.func15 rfl ?_
          ((try simp only [decide_eq_true_eq, decide_eq_false_iff_not, Bool.not_eq_true', Bool.not_eq_false', Bool.not_true, Bool.not_false, Bool.and_eq_true, Bool.or_eq_true, bne_iff_ne, beq_iff_eq, ne_eq]); (try simp only [rng, lo, hi, mnI, mxI, Int.toNat_natCast, Sg.n, Nat.mul_one, Nat.zero_add, Nat.add_zero, Nat.reduceAdd, List.getD_cons_zero, List.getD_cons_succ, e3, t1, t2, i1, i2, r0, r1, eL]))
          ((repeat' (first | (with_reducible apply And.intro) | intro _)); all_goals (first | exact trivial | (with_reducible assumption) | (show (_ : List Blk) = _; rfl) | (first | exact trivial | (with_reducible assumption) | omega | (split <;> omega) | (split <;> split <;> omega)) | skip); all_goals (try (refine ⟨rfl, (by first | exact Nat.le_refl _ | exact Nat.le_of_ble_eq_true rfl), rfl, rfl, ?_, (by repeat' (first | exact trivial | rfl | apply And.intro)), rfl, rfl⟩)))
          all_goals (try first | omega | (show _ ≤ 9223372036854775807; first | omega | (simp only [ByteArray.size_append, szb, z4, z5, z6]; omega)))
          exact ⟨ihs [0, 4] _ _ ⟨rfl, rfl, rfl, (by repeat' (first | exact trivial | rfl | apply And.intro)), (by repeat' (first | exact trivial | rfl | apply And.intro)), rfl, rfl, rfl⟩⟩
    · rw [if_neg he] at eT
      rcases hq with rfl | rfl
      · rw [if_pos rfl] at eW
        rw [eT, eW] at eL
        have eL := eL.symm
        cases i with
        | zero =>
          refine Goes.tree Γ_ok htb 1000 false false Tryd.func15 rfl ?_
          ((try simp only [decide_eq_true_eq, decide_eq_false_iff_not, Bool.not_eq_true', Bool.not_eq_false', Bool.not_true, Bool.not_false, Bool.and_eq_true, Bool.or_eq_true, bne_iff_ne, beq_iff_eq, ne_eq]); (try simp only [rng, lo, hi, mnI, mxI, Int.toNat_natCast, Sg.n, Nat.mul_one, Nat.zero_add, Nat.add_zero, Nat.reduceAdd, List.getD_cons_zero, List.getD_cons_succ, e3, t1, t2, i1, i2, r0, r1, eL]))
          ((repeat' (first | (with_reducible apply And.intro) | intro _)); all_goals (first | exact trivial | (with_reducible assumption) | (show (_ : List Blk) = _; rfl) | (first | exact trivial | (with_reducible assumption) | omega | (split <;> omega) | (split <;> split <;> omega)) | skip); all_goals (try (refine ⟨rfl, (by first | exact Nat.le_refl _ | exact Nat.le_of_ble_eq_true rfl), rfl, rfl, ?_, (by repeat' (first | exact trivial | rfl | apply And.intro)), rfl, rfl⟩)))
          all_goals (try first | omega | (show _ ≤ 9223372036854775807; first | omega | (simp only [ByteArray.size_append, szb, z4, z5, z6]; omega)))
          exact ⟨ihs [0, 3] _ _ ⟨rfl, rfl, rfl, (by repeat' (first | exact trivial | rfl | apply And.intro)), (by repeat' (first | exact trivial | rfl | apply And.intro)), rfl, rfl, rfl⟩⟩
        | succ i =>
          refine Goes.tree Γ_ok htb 1000 false false Tryd.func15 rfl ?_
          ((try simp only [decide_eq_true_eq, decide_eq_false_iff_not, Bool.not_eq_true', Bool.not_eq_false', Bool.not_true, Bool.not_false, Bool.and_eq_true, Bool.or_eq_true, bne_iff_ne, beq_iff_eq, ne_eq]); (try simp only [rng, lo, hi, mnI, mxI, Int.toNat_natCast, Sg.n, Nat.mul_one, Nat.zero_add, Nat.add_zero, Nat.reduceAdd, List.getD_cons_zero, List.getD_cons_succ, e3, t1, t2, i1, i2, r0, r1, eL]))
          ((repeat' (first | (with_reducible apply And.intro) | intro _)); all_goals (first | exact trivial | (with_reducible assumption) | (show (_ : List Blk) = _; rfl) | (first | exact trivial | (with_reducible assumption) | omega | (split <;> omega) | (split <;> split <;> omega)) | skip); all_goals (try (refine ⟨rfl, (by first | exact Nat.le_refl _ | exact Nat.le_of_ble_eq_true rfl), rfl, rfl, ?_, (by repeat' (first | exact trivial | rfl | apply And.intro)), rfl, rfl⟩)))
          all_goals (try first | omega | (show _ ≤ 9223372036854775807; first | omega | (simp only [ByteArray.size_append, szb, z4, z5, z6]; omega)))
          exact ⟨ihs [0, 4] _ _ ⟨rfl, rfl, rfl, (by repeat' (first | exact trivial | rfl | apply And.intro)), (by repeat' (first | exact trivial | rfl | apply And.intro)), rfl, rfl, rfl⟩⟩
      · rw [if_neg (by decide)] at eW
        rw [eT, eW] at eL
        have eL := eL.symm
        cases i with
        | zero =>
          refine Goes.tree Γ_ok htb 1000 false false Tryd.func15 rfl ?_
          ((try simp only [decide_eq_true_eq, decide_eq_false_iff_not, Bool.not_eq_true', Bool.not_eq_false', Bool.not_true, Bool.not_false, Bool.and_eq_true, Bool.or_eq_true, bne_iff_ne, beq_iff_eq, ne_eq]); (try simp only [rng, lo, hi, mnI, mxI, Int.toNat_natCast, Sg.n, Nat.mul_one, Nat.zero_add, Nat.add_zero, Nat.reduceAdd, List.getD_cons_zero, List.getD_cons_succ, e3, t1, t2, i1, i2, r0, r1, eL]))
          ((repeat' (first | (with_reducible apply And.intro) | intro _)); all_goals (first | exact trivial | (with_reducible assumption) | (show (_ : List Blk) = _; rfl) | (first | exact trivial | (with_reducible assumption) | omega | (split <;> omega) | (split <;> split <;> omega)) | skip); all_goals (try (refine ⟨rfl, (by first | exact Nat.le_refl _ | exact Nat.le_of_ble_eq_true rfl), rfl, rfl, ?_, (by repeat' (first | exact trivial | rfl | apply And.intro)), rfl, rfl⟩)))
          all_goals (try first | omega | (show _ ≤ 9223372036854775807; first | omega | (simp only [ByteArray.size_append, szb, z4, z5, z6]; omega)))
          exact ⟨ihs [0, 3] _ _ ⟨rfl, rfl, rfl, (by repeat' (first | exact trivial | rfl | apply And.intro)), (by repeat' (first | exact trivial | rfl | apply And.intro)), rfl, rfl, rfl⟩⟩
        | succ i =>
          refine Goes.tree Γ_ok htb 1000 false false Tryd.func15 rfl ?_
          ((try simp only [decide_eq_true_eq, decide_eq_false_iff_not, Bool.not_eq_true', Bool.not_eq_false', Bool.not_true, Bool.not_false, Bool.and_eq_true, Bool.or_eq_true, bne_iff_ne, beq_iff_eq, ne_eq]); (try simp only [rng, lo, hi, mnI, mxI, Int.toNat_natCast, Sg.n, Nat.mul_one, Nat.zero_add, Nat.add_zero, Nat.reduceAdd, List.getD_cons_zero, List.getD_cons_succ, e3, t1, t2, i1, i2, r0, r1, eL]))
          ((repeat' (first | (with_reducible apply And.intro) | intro _)); all_goals (first | exact trivial | (with_reducible assumption) | (show (_ : List Blk) = _; rfl) | (first | exact trivial | (with_reducible assumption) | omega | (split <;> omega) | (split <;> split <;> omega)) | skip); all_goals (try (refine ⟨rfl, (by first | exact Nat.le_refl _ | exact Nat.le_of_ble_eq_true rfl), rfl, rfl, ?_, (by repeat' (first | exact trivial | rfl | apply And.intro)), rfl, rfl⟩)))
          all_goals (try first | omega | (show _ ≤ 9223372036854775807; first | omega | (simp only [ByteArray.size_append, szb, z4, z5, z6]; omega)))
          exact ⟨ihs [0, 4] _ _ ⟨rfl, rfl, rfl, (by repeat' (first | exact trivial | rfl | apply And.intro)), (by repeat' (first | exact trivial | rfl | apply And.intro)), rfl, rfl, rfl⟩⟩
  · obtain rfl : i = rows.length := by omega
    clear ih
    have eX := buf_text (fun i => linT (rows.getD i [])) rows.length
    rw [lin_go] at eX
    cases hr : rows.length with
    | zero =>
      rw [hr] at eX hok
      refine Goes.tree Γ_ok htb 1000 false false Tryd.func15 rfl ?_
      ((try simp only [decide_eq_true_eq, decide_eq_false_iff_not, Bool.not_eq_true', Bool.not_eq_false', Bool.not_true, Bool.not_false, Bool.and_eq_true, Bool.or_eq_true, bne_iff_ne, beq_iff_eq, ne_eq]); (try simp only [rng, lo, hi, mnI, mxI, Int.toNat_natCast, Sg.n, Nat.mul_one, Nat.zero_add, Nat.add_zero, Nat.reduceAdd, List.getD_cons_zero, List.getD_cons_succ, hr]))
      ((repeat' (first | (with_reducible apply And.intro) | intro _)); all_goals (first | exact trivial | (with_reducible assumption) | (show (_ : List Blk) = _; rfl) | (first | exact trivial | (with_reducible assumption) | omega | (split <;> omega) | (split <;> split <;> omega)) | skip); all_goals (try (refine ⟨rfl, (by first | exact Nat.le_refl _ | exact Nat.le_of_ble_eq_true rfl), rfl, rfl, ?_, (by repeat' (first | exact trivial | rfl | apply And.intro)), rfl, rfl⟩)))
      · show sameA (.s (goaT rows)) _
        rw [hok]; exact sameA_refl _
    | succ n =>
      have hn1 : 0 < (bufK (fun i => linT (rows.getD i [])) (n + 1)).length := by
        have := lin_len hany h7 n (by omega)
        rw [buf_len]
        unfold catT
        rw [ByteArray.size_append]; omega
      rw [hr] at eX hok
      refine Goes.tree Γ_ok htb 1000 false false Tryd.func15 rfl ?_
      ((try simp only [decide_eq_true_eq, decide_eq_false_iff_not, Bool.not_eq_true', Bool.not_eq_false', Bool.not_true, Bool.not_false, Bool.and_eq_true, Bool.or_eq_true, bne_iff_ne, beq_iff_eq, ne_eq]); (try simp only [rng, lo, hi, mnI, mxI, Int.toNat_natCast, Sg.n, Nat.mul_one, Nat.zero_add, Nat.add_zero, Nat.reduceAdd, List.getD_cons_zero, List.getD_cons_succ, hr, eX]))
      ((repeat' (first | (with_reducible apply And.intro) | intro _)); all_goals (first | exact trivial | (with_reducible assumption) | (show (_ : List Blk) = _; rfl) | (first | exact trivial | (with_reducible assumption) | omega | (split <;> omega) | (split <;> split <;> omega)) | skip); all_goals (try (refine ⟨rfl, (by first | exact Nat.le_refl _ | exact Nat.le_of_ble_eq_true rfl), rfl, rfl, ?_, (by repeat' (first | exact trivial | rfl | apply And.intro)), rfl, rfl⟩)))
      all_goals (try omega)
      · show sameA (.s (goaT rows)) _
        rw [hok]; exact sameA_refl _
end Go.Proofs.YtplnfdgokpgbcaaDoor
