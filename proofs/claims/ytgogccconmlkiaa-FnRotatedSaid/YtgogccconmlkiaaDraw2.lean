/- A pasture that is drawn, cell by cell. -/
import Derived.Test.YtgogccconmlkiaaDraw
namespace Go.Proofs.Ytgogccconmlkiaa
open Go Go.Eng
set_option linter.unusedSimpArgs false
set_option linter.unusedVariables false
set_option maxRecDepth 100000
set_option maxHeartbeats 4000000

abbrev DS := List Int × Int × Int
def drG (rows : List (List Int)) (x y : Nat) (S : DS) : DS := (S.1.set (2 + y * 10 + x) (pkv rows S.2.1 S.2.2 12), pka S.2.1 12, pks rows S.2.1 S.2.2 12)
def drS (rows : List (List Int)) (many : Int) (x y : Nat) (d : Int) (S : DS) : DS :=
  if isP S.1 (ahead [(x : Int), (y : Int)] d) = true then (if pkv rows S.2.1 S.2.2 many = 0 then setP S.1 [(x : Int), (y : Int)] d else S.1, pka S.2.1 many, pks rows S.2.1 S.2.2 many) else S
def drK (rows : List (List Int)) (many : Int) (x y : Nat) (S : DS) : Nat → DS
  | 0 => S
  | k + 1 => drS rows many x y ((k : Int) + 1) (drK rows many x y S k)
def drR (rows : List (List Int)) (many : Int) (y : Nat) (S : DS) : Nat → DS
  | 0 => S
  | x + 1 => drK rows many x y (drG rows x y (drR rows many y S x)) 2
def drA (rows : List (List Int)) (many : Int) (w : Nat) (S : DS) : Nat → DS
  | 0 => S
  | y + 1 => drR rows many y (drA rows many w S y) w
def dr0 (rows : List (List Int)) (a sd : Int) : DS :=
  (((List.replicate 122 0).set 0 (1 + pkv rows a sd 5)).set 1 (1 + pkv rows (pka a 5) (pks rows a sd 5) 5), pka (pka (pka a 5) 5) 5, pks rows (pka (pka a 5) 5) (pks rows (pka a 5) (pks rows a sd 5) 5) 5)
def drW (rows : List (List Int)) (a sd : Int) : Int := 1 + pkv rows a sd 5
def drH (rows : List (List Int)) (a sd : Int) : Int := 1 + pkv rows (pka a 5) (pks rows a sd 5) 5
def drM (rows : List (List Int)) (a sd : Int) : Int := 2 + pkv rows (pka (pka a 5) 5) (pks rows (pka a 5) (pks rows a sd 5) 5) 5
def drawS (rows : List (List Int)) (a sd : Int) : DS := drA rows (drM rows a sd) (drW rows a sd).toNat (dr0 rows a sd) (drH rows a sd).toNat

/-- What stays as it was, and how far the source has gone. -/
structure DOk (w h b : Int) (S : DS) : Prop where
  len : S.1.length = 122
  w : S.1.getD 0 0 = w
  h : S.1.getD 1 0 = h
  a0 : 0 ≤ S.2.1
  a1 : S.2.1 ≤ b
theorem pka_rng (a n : Int) : a ≤ pka a n ∧ pka a n ≤ a + 1 := by unfold pka; split <;> omega
theorem set2_get {q : List Int} {i j : Nat} {v : Int} (h : j ≠ i) : (q.set i v).getD j 0 = q.getD j 0 := by
  rw [List.getD_eq_getElem?_getD, List.getElem?_set, if_neg (fun e => h e.symm), ← List.getD_eq_getElem?_getD]
theorem DOk.g {w h b : Int} {S : DS} (H : DOk w h b S) (rows : List (List Int)) (x y : Nat) : DOk w h (b + 1) (drG rows x y S) := by
  have := pka_rng S.2.1 12
  exact ⟨by simp [drG, H.len], by show (List.set _ _ _).getD 0 0 = _; rw [set2_get (by omega)]; exact H.w, by show (List.set _ _ _).getD 1 0 = _; rw [set2_get (by omega)]; exact H.h, by have := H.a0; show 0 ≤ pka S.2.1 12; omega, by have := H.a1; show pka S.2.1 12 ≤ b + 1; omega⟩
theorem setP_get {q s : List Int} {d : Int} {j : Nat} (h : j < 102) : (setP q s d).getD j 0 = q.getD j 0 := by
  unfold setP
  split <;> rw [set2_get (by omega), set2_get (by omega)]
theorem setP_len (q s : List Int) (d : Int) : (setP q s d).length = q.length := by unfold setP; split <;> simp
theorem DOk.s {w h b : Int} {S : DS} (H : DOk w h b S) (rows : List (List Int)) (many : Int) (x y : Nat) (d : Int) : DOk w h (b + 1) (drS rows many x y d S) := by
  have h1 := pka_rng S.2.1 many
  have h2 := H.a0
  have h3 := H.a1
  unfold drS
  split
  · refine ⟨?_, ?_, ?_, by show 0 ≤ pka S.2.1 many; omega, by show pka S.2.1 many ≤ b + 1; omega⟩
    · show (ite _ _ _ : List Int).length = _
      split
      · rw [setP_len]; exact H.len
      · exact H.len
    · show (ite _ _ _ : List Int).getD 0 0 = _
      split
      · rw [setP_get (by omega)]; exact H.w
      · exact H.w
    · show (ite _ _ _ : List Int).getD 1 0 = _
      split
      · rw [setP_get (by omega)]; exact H.h
      · exact H.h
  · exact ⟨H.len, H.w, H.h, h2, by omega⟩
theorem DOk.mono {w h b b' : Int} {S : DS} (H : DOk w h b S) (hb : b ≤ b') : DOk w h b' S := ⟨H.len, H.w, H.h, H.a0, Int.le_trans H.a1 hb⟩
theorem DOk.k {w h b : Int} {S : DS} (H : DOk w h b S) (rows : List (List Int)) (many : Int) (x y : Nat) : ∀ k : Nat, DOk w h (b + k) (drK rows many x y S k)
  | 0 => by simpa [drK] using H
  | k + 1 => ((DOk.k H rows many x y k).s rows many x y _).mono (by omega)
theorem DOk.r {w h b : Int} {S : DS} (H : DOk w h b S) (rows : List (List Int)) (many : Int) (y : Nat) : ∀ x : Nat, DOk w h (b + 3 * x) (drR rows many y S x)
  | 0 => by simpa [drR] using H
  | x + 1 => (((DOk.r H rows many y x).g rows x y).k rows many x y 2).mono (by omega)
theorem DOk.a {w h b : Int} {S : DS} (H : DOk w h b S) (rows : List (List Int)) (many : Int) {n : Nat} (hn : n ≤ 5) : ∀ y : Nat, DOk w h (b + 15 * y) (drA rows many n S y)
  | 0 => by simpa [drA] using H
  | y + 1 => ((DOk.a H rows many hn y).r rows many y n).mono (by omega)
theorem dr0_ok {rows : List (List Int)} (hR : SrcOk rows) {a sd : Int} (h0 : 0 ≤ a) : DOk (drW rows a sd) (drH rows a sd) (a + 3) (dr0 rows a sd) := by
  have h1 := pka_rng a 5
  have h2 := pka_rng (pka a 5) 5
  have h3 := pka_rng (pka (pka a 5) 5) 5
  exact ⟨rfl, rfl, rfl, by show 0 ≤ pka (pka (pka a 5) 5) 5; omega, by show pka (pka (pka a 5) 5) 5 ≤ a + 3; omega⟩
theorem drW_rng {rows : List (List Int)} (hR : SrcOk rows) {a : Int} (sd : Int) (h0 : 0 ≤ a) : 1 ≤ drW rows a sd ∧ drW rows a sd ≤ 5 := by
  have := pkv_rng hR.ok sd (n := 5) h0
  unfold drW; omega
theorem drH_rng {rows : List (List Int)} (hR : SrcOk rows) {a : Int} (sd : Int) (h0 : 0 ≤ a) : 1 ≤ drH rows a sd ∧ drH rows a sd ≤ 5 := by
  have h1 := pka_rng a 5
  have := pkv_rng hR.ok (pks rows a sd 5) (a := pka a 5) (n := 5) (by omega)
  unfold drH; omega
theorem drM_rng {rows : List (List Int)} (hR : SrcOk rows) {a : Int} (sd : Int) (h0 : 0 ≤ a) : 2 ≤ drM rows a sd ∧ drM rows a sd ≤ 6 := by
  have h1 := pka_rng a 5
  have h2 := pka_rng (pka a 5) 5
  have := pkv_rng hR.ok (pks rows (pka a 5) (pks rows a sd 5) 5) (a := pka (pka a 5) 5) (n := 5) (by omega)
  unfold drM; omega

def drawnS : Fun
  | [.rp 0 0 3 172], [.r [.fs .u8 rows, .i .i64 a, .i .u64 sd]] => some (.ag .pas (drawS rows a sd).1, [.r [.fs .u8 rows, .i .i64 (drawS rows a sd).2.1, .i .u64 (drawS rows a sd).2.2]], [0 ≤ a ∧ a ≤ 1000000 ∧ SrcOk rows])
  | _, _ => .none
set_option maxRecDepth 100000 in
theorem s_l01Drawn : Sound Try.prog 72 drawnS := by
  intro args M r M' vs h hvs
  unfold drawnS at h
  split at h
  case h_2 => cases h
  rename_i rows a sd
  cases h
  refine SpecOK.assume fun hA hM => ?_
  have htb := (TbOk.cons s_pick Try.func91 rfl rfl (TbOk.cons s_l01Next Try.func131 rfl rfl (TbOk.cons s_l01Is Try.func78 rfl rfl (TbOk.cons s_one Try.func132 rfl rfl (TbOk.cons s_l01SetOn Try.func133 rfl rfl (TbOk.nil : TbOk Try.prog tb0))))))
  refine SpecOK.of_goes [0] Try.func72 rfl ?_
  obtain ⟨⟨h0, h1, hR⟩, -⟩ := hvs
  clear hA hM
  have k1 := pka_rng a 5
  have k2 := pka_rng (pka a 5) 5
  have v1 := pkv_rng hR.ok sd (a := a) (n := 5) h0
  have v2 := pkv_rng hR.ok (pks rows a sd 5) (a := pka a 5) (n := 5) (by omega)
  have v3 := pkv_rng hR.ok (pks rows (pka a 5) (pks rows a sd 5) 5) (a := pka (pka a 5) 5) (n := 5) (by omega)
  have hw := drW_rng hR sd h0
  have hh := drH_rng hR sd h0
  have hm := drM_rng hR sd h0
  have hD := dr0_ok hR (sd := sd) h0
  have eM : 2 + pkv rows (pka (pka a 5) 5) (pks rows (pka a 5) (pks rows a sd 5) 5) 5 = drM rows a sd := rfl
  refine Goes.tree Γ_ok htb 1000 false false Try.func72 rfl ?_
  ((try simp only [decide_eq_true_eq, decide_eq_false_iff_not, Bool.not_eq_true', Bool.not_eq_false', Bool.not_true, Bool.not_false, Bool.and_eq_true, Bool.or_eq_true, bne_iff_ne, beq_iff_eq, ne_eq]); (try simp only [rng, lo, hi, mnI, mxI, Int.toNat_natCast, Sg.n, Nat.mul_one, Nat.zero_add, Nat.add_zero, Nat.reduceAdd, List.getD_cons_zero, List.getD_cons_succ]))
  ((repeat' (first | (with_reducible apply And.intro) | intro _)); all_goals (first | exact trivial | (with_reducible assumption) | (show (_ : List Blk) = _; rfl) | (first | exact trivial | (with_reducible assumption) | omega | (split <;> omega) | (split <;> split <;> omega)) | skip); all_goals (try (refine ⟨rfl, (by first | exact Nat.le_refl _ | exact Nat.le_of_ble_eq_true rfl), rfl, rfl, ?_, (by repeat' (first | exact trivial | rfl | apply And.intro)), rfl, rfl⟩)))
  all_goals (try first | omega | exact hR)
  refine ⟨?_⟩
  show Goes _ _ _ _ _ _ (fun r' N => Eng.Fin _ _ _ _ (.ag .pas (drA rows (drM rows a sd) (drW rows a sd).toNat (dr0 rows a sd) (drH rows a sd).toNat).1) [.r [.fs .u8 rows, .i .i64 (drA rows (drM rows a sd) (drW rows a sd).toNat (dr0 rows a sd) (drH rows a sd).toNat).2.1, .i .u64 (drA rows (drM rows a sd) (drW rows a sd).toNat (dr0 rows a sd) (drH rows a sd).toNat).2.2]])
  have hDa := hD.a rows (drM rows a sd) (n := (drW rows a sd).toNat) (by omega)
  refine Goes.loopR (fun y : Nat => (drH rows a sd).toNat - y) (fun y => y ≤ (drH rows a sd).toNat) (fun y => (.rp 0 0 3 172 :: .any :: .pw 1 .pas :: .pw 2 .pas :: .i .i64 (drM rows a sd) :: .i .i8 (y : Int) :: .any :: .any :: .any :: .any :: .any :: .any :: .any :: .any :: .any :: .any :: .any :: .any :: .any :: .any :: .any :: .any :: .any :: .any :: .any :: .any :: .any :: .any :: .any :: .any :: .any :: .any :: .any :: .any :: .any :: .any :: .any :: .any :: .any :: .any :: .any :: .any :: .any :: .any :: .any :: .any :: .any :: .any :: .any :: .any :: .any :: .any :: .any :: .any :: .any :: .any :: .any :: .any :: .any :: .any :: .any :: .any :: []))
    (fun y => [.r [.fs .u8 rows, .i .i64 (drA rows (drM rows a sd) (drW rows a sd).toNat (dr0 rows a sd) y).2.1, .i .u64 (drA rows (drM rows a sd) (drW rows a sd).toNat (dr0 rows a sd) y).2.2], .c .pas (List.replicate 122 0), .c .pas (drA rows (drM rows a sd) (drW rows a sd).toNat (dr0 rows a sd) y).1]) 0 [0, 1, 2] (Nat.zero_le _) ⟨rfl, rfl, rfl, (by repeat' (first | exact trivial | rfl | apply And.intro)), (by repeat' (first | exact trivial | rfl | apply And.intro)), rfl, rfl, rfl⟩ fun y hy ihO => ?_
  have hY := hDa y
  generalize hSy : drA rows (drM rows a sd) (drW rows a sd).toNat (dr0 rows a sd) y = Sy at *
  by_cases hlt : (y : Int) < drH rows a sd
  · have ihO := ihO (y + 1) (by omega) (by omega)
    have ey : drA rows (drM rows a sd) (drW rows a sd).toNat (dr0 rows a sd) (y + 1) = drR rows (drM rows a sd) y Sy (drW rows a sd).toNat := by rw [← hSy]; rfl
    rw [ey] at ihO
    have hSh := hY.h
    have hSw := hY.w
    refine Goes.tree Γ_ok htb 1000 false false Try.func72 rfl ?_
    ((try simp only [decide_eq_true_eq, decide_eq_false_iff_not, Bool.not_eq_true', Bool.not_eq_false', Bool.not_true, Bool.not_false, Bool.and_eq_true, Bool.or_eq_true, bne_iff_ne, beq_iff_eq, ne_eq]); (try simp only [rng, lo, hi, mnI, mxI, Int.toNat_natCast, Sg.n, Nat.mul_one, Nat.zero_add, Nat.add_zero, Nat.reduceAdd, List.getD_cons_zero, List.getD_cons_succ, hSh, hSw]))
    ((repeat' (first | (with_reducible apply And.intro) | intro _)); all_goals (first | exact trivial | (with_reducible assumption) | (show (_ : List Blk) = _; rfl) | (first | exact trivial | (with_reducible assumption) | omega | (split <;> omega) | (split <;> split <;> omega)) | skip); all_goals (try (refine ⟨rfl, (by first | exact Nat.le_refl _ | exact Nat.le_of_ble_eq_true rfl), rfl, rfl, ?_, (by repeat' (first | exact trivial | rfl | apply And.intro)), rfl, rfl⟩)))
    all_goals (try first | omega)
    refine ⟨?_⟩
    have hDr := hY.r rows (drM rows a sd) y
    refine Goes.loopR (fun x : Nat => (drW rows a sd).toNat - x) (fun x => x ≤ (drW rows a sd).toNat) (fun x => (.rp 0 0 3 172 :: .any :: .pw 1 .pas :: .pw 2 .pas :: .i .i64 (drM rows a sd) :: .i .i8 (y : Int) :: .i .i8 (x : Int) :: .any :: .any :: .any :: .any :: .any :: .any :: .any :: .any :: .any :: .any :: .any :: .any :: .any :: .any :: .any :: .any :: .any :: .any :: .any :: .any :: .any :: .any :: .any :: .any :: .any :: .any :: .any :: .any :: .any :: .any :: .any :: .any :: .any :: .any :: .any :: .any :: .any :: .any :: .any :: .any :: .any :: .any :: .any :: .any :: .any :: .any :: .any :: .any :: .any :: .any :: .any :: .any :: .any :: .any :: .any :: []))
      (fun x => [.r [.fs .u8 rows, .i .i64 (drR rows (drM rows a sd) y Sy x).2.1, .i .u64 (drR rows (drM rows a sd) y Sy x).2.2], .c .pas (List.replicate 122 0), .c .pas (drR rows (drM rows a sd) y Sy x).1]) 0 [0, 1, 2] (Nat.zero_le _) ⟨rfl, rfl, rfl, (by repeat' (first | exact trivial | rfl | apply And.intro)), (by repeat' (first | exact trivial | rfl | apply And.intro)), rfl, rfl, rfl⟩ fun x hx ihX => ?_
    have hX := hDr x
    generalize hSx : drR rows (drM rows a sd) y Sy x = Sx at *
    have hXh := hX.h
    have hXw := hX.w
    by_cases hltx : (x : Int) < drW rows a sd
    · have ihX := ihX (x + 1) (by omega) (by omega)
      have ex : drR rows (drM rows a sd) y Sy (x + 1) = drK rows (drM rows a sd) x y (drG rows x y Sx) 2 := by rw [← hSx]; rfl
      rw [ex] at ihX
      refine Goes.treeS Γ_ok htb 1000 false false Try.func72 rfl ?_
      ((try simp only [decide_eq_true_eq, decide_eq_false_iff_not, Bool.not_eq_true', Bool.not_eq_false', Bool.not_true, Bool.not_false, Bool.and_eq_true, Bool.or_eq_true, bne_iff_ne, beq_iff_eq, ne_eq]); (try simp only [rng, lo, hi, mnI, mxI, Int.toNat_natCast, Sg.n, Nat.mul_one, Nat.zero_add, Nat.add_zero, Nat.reduceAdd, List.getD_cons_zero, List.getD_cons_succ, hXh, hXw]))
      ((repeat' (first | (with_reducible apply And.intro) | intro _)); all_goals (first | exact trivial | (with_reducible assumption) | (show (_ : List Blk) = _; rfl) | (first | exact trivial | (with_reducible assumption) | omega | (split <;> omega) | (split <;> split <;> omega)) | skip); all_goals (try (refine ⟨rfl, (by first | exact Nat.le_refl _ | exact Nat.le_of_ble_eq_true rfl), rfl, rfl, ?_, (by repeat' (first | exact trivial | rfl | apply And.intro)), rfl, rfl⟩)))
      all_goals (try first | omega)
      refine ⟨?_⟩
      have hXa := hX.a0
      have hXb := hX.a1
      have hpv := pkv_rng hR.ok Sx.2.2 (a := Sx.2.1) (n := 12) hXa
      refine Goes.regCallN Γ_ok htb false 8 3 [.i .i8 (y : Int), .i .i8 (x : Int), .rp 0 0 3 172, .i .i64 (pkv rows Sx.2.1 Sx.2.2 12), .i .i16 (pkv rows Sx.2.1 Sx.2.2 12), .p 2 2 .grid, .p 2 (2 + (y : Int).toNat * 10) .row, .p 2 (2 + (y : Int).toNat * 10 + (x : Int).toNat * 1) .i16]
        [.r [.fs .u8 rows, .i .i64 (drG rows x y Sx).2.1, .i .u64 (drG rows x y Sx).2.2], .c .pas (List.replicate 122 0), .c .pas Sx.1] rfl ⟨rfl, rfl⟩ rfl rfl ?_ ?_ ⟨_, rfl, ?_⟩ ?_
      · intro i o ho hic
        match i, ho, hic with
        | 0, ho, _ => cases ho; exact ⟨⟨_, rfl, trivial⟩, ⟨_, rfl, trivial⟩⟩
        | 1, ho, _ => cases ho; exact ⟨⟨_, rfl, trivial⟩, ⟨_, rfl, trivial⟩⟩
        | 2, ho, _ => cases ho; exact ⟨⟨_, rfl, trivial⟩, ⟨_, rfl, trivial⟩⟩
        | 3, _, hic => exact absurd rfl hic
        | 4, ho, _ => cases ho; refine ⟨⟨_, rfl, ?_⟩, ⟨_, rfl, ?_⟩⟩ <;> (simp only [allP, rng, lo, hi, and_true]; omega)
        | 5, ho, _ => cases ho; exact ⟨⟨_, rfl, trivial⟩, ⟨_, rfl, trivial⟩⟩
        | 6, ho, _ => cases ho; refine ⟨⟨_, rfl, ?_⟩, ⟨_, rfl, ?_⟩⟩ <;> (simp only [allP, and_true]; omega)
        | 7, ho, _ => cases ho; refine ⟨⟨_, rfl, ?_⟩, ⟨_, rfl, ?_⟩⟩ <;> (simp only [allP, and_true]; omega)
        | i + 8, ho, _ => simp at ho
      · intro o ho
        cases ho
        refine ⟨_, rfl, ?_⟩
        simp only [allP, and_true]
        exact ⟨hXa, by omega, hR, by omega⟩
      · trivial
      have hG := hX.g rows x y
      have hK := hG.k rows (drM rows a sd) x y
      have eG1 : (drG rows x y Sx).1 = Sx.1.set (2 + y * 10 + x) (pkv rows Sx.2.1 Sx.2.2 12) := rfl
      clear ihO hDa hDr
      refine Goes.tree Γ_ok htb 1000 false false Try.func72 rfl ?_
      ((try simp only [decide_eq_true_eq, decide_eq_false_iff_not, Bool.not_eq_true', Bool.not_eq_false', Bool.not_true, Bool.not_false, Bool.and_eq_true, Bool.or_eq_true, bne_iff_ne, beq_iff_eq, ne_eq]); (try simp only [rng, lo, hi, mnI, mxI, Int.toNat_natCast, Sg.n, Nat.mul_one, Nat.zero_add, Nat.add_zero, Nat.reduceAdd, List.getD_cons_zero, List.getD_cons_succ]))
      ((repeat' (first | (with_reducible apply And.intro) | intro _)); all_goals (first | exact trivial | (with_reducible assumption) | (show (_ : List Blk) = _; rfl) | (first | exact trivial | (with_reducible assumption) | omega | (split <;> omega) | (split <;> split <;> omega)) | skip); all_goals (try (refine ⟨rfl, (by first | exact Nat.le_refl _ | exact Nat.le_of_ble_eq_true rfl), rfl, rfl, ?_, (by repeat' (first | exact trivial | rfl | apply And.intro)), rfl, rfl⟩)))
      all_goals (try first | omega)
      refine ⟨?_⟩
      refine Goes.loopR (fun k : Nat => 2 - k) (fun k => k ≤ 2) (fun k => (.rp 0 0 3 172 :: .any :: .pw 1 .pas :: .pw 2 .pas :: .i .i64 (drM rows a sd) :: .i .i8 (y : Int) :: .i .i8 (x : Int) :: .i .i64 ((k : Int) + 1) :: .any :: .any :: .any :: .any :: .any :: .any :: .any :: .any :: .any :: .any :: .any :: .any :: .any :: .any :: .any :: .any :: .any :: .any :: .any :: .any :: .any :: .any :: .any :: .any :: .any :: .any :: .any :: .any :: .any :: .any :: .any :: .any :: .any :: .any :: .any :: .any :: .any :: .any :: .any :: .any :: .any :: .any :: .any :: .any :: .any :: .any :: .any :: .any :: .any :: .any :: .any :: .any :: .any :: .any :: []))
        (fun k => [.r [.fs .u8 rows, .i .i64 (drK rows (drM rows a sd) x y (drG rows x y Sx) k).2.1, .i .u64 (drK rows (drM rows a sd) x y (drG rows x y Sx) k).2.2], .c .pas (List.replicate 122 0), .c .pas (drK rows (drM rows a sd) x y (drG rows x y Sx) k).1]) 0 [0, 1, 2] (Nat.zero_le _) ⟨rfl, rfl, rfl, (by repeat' (first | exact trivial | rfl | apply And.intro)), (by repeat' (first | exact trivial | rfl | apply And.intro)), rfl, rfl, rfl⟩ fun k hk ihK => ?_
      have hKk := hK k
      by_cases hltk : k < 2
      · have ihK := ihK (k + 1) (by omega) (by omega)
        have ek : drK rows (drM rows a sd) x y (drG rows x y Sx) (k + 1) = drS rows (drM rows a sd) x y ((k : Int) + 1) (drK rows (drM rows a sd) x y (drG rows x y Sx) k) := rfl
        rw [ek] at ihK
        generalize drK rows (drM rows a sd) x y (drG rows x y Sx) k = Sk at *
        have hKa := hKk.a0
        have hKb := hKk.a1
        have hn : near [(x : Int), (y : Int)] := by simp only [near, List.getD_cons_zero, List.getD_cons_succ]; omega
        have hgi : inG [(x : Int), (y : Int)] := by simp only [inG, List.getD_cons_zero, List.getD_cons_succ]; omega
        have hkd : (k : Int) + 1 = 1 ∨ (k : Int) + 1 = 2 := by omega
        have ekk : ((k + 1 : Nat) : Int) + 1 = (k : Int) + 1 + 1 := by omega
        rw [ekk] at ihK
        clear ihX
        unfold drS at ihK
        refine Goes.tree Γ_ok htb 1000 false false Try.func72 rfl ?_
        ((try simp only [decide_eq_true_eq, decide_eq_false_iff_not, Bool.not_eq_true', Bool.not_eq_false', Bool.not_true, Bool.not_false, Bool.and_eq_true, Bool.or_eq_true, bne_iff_ne, beq_iff_eq, ne_eq]); (try simp only [rng, lo, hi, mnI, mxI, Int.toNat_natCast, Sg.n, Nat.mul_one, Nat.zero_add, Nat.add_zero, Nat.reduceAdd, List.getD_cons_zero, List.getD_cons_succ]))
        ((repeat' (first | (with_reducible apply And.intro) | intro _)); all_goals (first | exact trivial | (with_reducible assumption) | (show (_ : List Blk) = _; rfl) | (first | exact trivial | (with_reducible assumption) | omega | (split <;> omega) | (split <;> split <;> omega)) | skip); all_goals (try (refine ⟨rfl, (by first | exact Nat.le_refl _ | exact Nat.le_of_ble_eq_true rfl), rfl, rfl, ?_, (by repeat' (first | exact trivial | rfl | apply And.intro)), rfl, rfl⟩)))
        all_goals (try first | omega | with_reducible assumption)
        · rename_i h1 h2
          rw [if_pos h1, if_pos h2] at ihK
          exact ⟨ihK [0, 1, 2] _ _ ⟨rfl, rfl, rfl, (by repeat' (first | exact trivial | rfl | apply And.intro)), (by repeat' (first | exact trivial | rfl | apply And.intro)), rfl, rfl, rfl⟩⟩
        · rename_i h1 h2
          rw [if_pos h1, if_neg h2] at ihK
          exact ⟨ihK [0, 1, 2] _ _ ⟨rfl, rfl, rfl, (by repeat' (first | exact trivial | rfl | apply And.intro)), (by repeat' (first | exact trivial | rfl | apply And.intro)), rfl, rfl, rfl⟩⟩
        · rename_i h1
          rw [if_neg (by rw [h1]; decide)] at ihK
          exact ⟨ihK [0, 1, 2] _ _ ⟨rfl, rfl, rfl, (by repeat' (first | exact trivial | rfl | apply And.intro)), (by repeat' (first | exact trivial | rfl | apply And.intro)), rfl, rfl, rfl⟩⟩
      · obtain rfl : k = 2 := by omega
        clear ihK
        refine Goes.tree Γ_ok htb 1000 false false Try.func72 rfl ?_
        ((try simp only [decide_eq_true_eq, decide_eq_false_iff_not, Bool.not_eq_true', Bool.not_eq_false', Bool.not_true, Bool.not_false, Bool.and_eq_true, Bool.or_eq_true, bne_iff_ne, beq_iff_eq, ne_eq]); (try simp only [rng, lo, hi, mnI, mxI, Int.toNat_natCast, Sg.n, Nat.mul_one, Nat.zero_add, Nat.add_zero, Nat.reduceAdd, List.getD_cons_zero, List.getD_cons_succ]))
        ((repeat' (first | (with_reducible apply And.intro) | intro _)); all_goals (first | exact trivial | (with_reducible assumption) | (show (_ : List Blk) = _; rfl) | (first | exact trivial | (with_reducible assumption) | omega | (split <;> omega) | (split <;> split <;> omega)) | skip); all_goals (try (refine ⟨rfl, (by first | exact Nat.le_refl _ | exact Nat.le_of_ble_eq_true rfl), rfl, rfl, ?_, (by repeat' (first | exact trivial | rfl | apply And.intro)), rfl, rfl⟩)))
        all_goals (try first | omega)
        exact ⟨ihX [0, 1, 2] _ _ ⟨rfl, rfl, rfl, (by repeat' (first | exact trivial | rfl | apply And.intro)), (by repeat' (first | exact trivial | rfl | apply And.intro)), rfl, rfl, rfl⟩⟩
    · obtain rfl : x = (drW rows a sd).toNat := by omega
      clear ihX
      refine Goes.tree Γ_ok htb 1000 false false Try.func72 rfl ?_
      ((try simp only [decide_eq_true_eq, decide_eq_false_iff_not, Bool.not_eq_true', Bool.not_eq_false', Bool.not_true, Bool.not_false, Bool.and_eq_true, Bool.or_eq_true, bne_iff_ne, beq_iff_eq, ne_eq]); (try simp only [rng, lo, hi, mnI, mxI, Int.toNat_natCast, Sg.n, Nat.mul_one, Nat.zero_add, Nat.add_zero, Nat.reduceAdd, List.getD_cons_zero, List.getD_cons_succ, hXh, hXw]))
      ((repeat' (first | (with_reducible apply And.intro) | intro _)); all_goals (first | exact trivial | (with_reducible assumption) | (show (_ : List Blk) = _; rfl) | (first | exact trivial | (with_reducible assumption) | omega | (split <;> omega) | (split <;> split <;> omega)) | skip); all_goals (try (refine ⟨rfl, (by first | exact Nat.le_refl _ | exact Nat.le_of_ble_eq_true rfl), rfl, rfl, ?_, (by repeat' (first | exact trivial | rfl | apply And.intro)), rfl, rfl⟩)))
      all_goals (try first | omega)
      rw [← hSx] at *
      exact ⟨ihO [0, 1, 2] _ _ ⟨rfl, rfl, rfl, (by repeat' (first | exact trivial | rfl | apply And.intro)), (by repeat' (first | exact trivial | rfl | apply And.intro)), rfl, rfl, rfl⟩⟩
  · obtain rfl : y = (drH rows a sd).toNat := by omega
    clear ihO
    have hSh := hY.h
    rw [hSy]
    refine Goes.tree Γ_ok htb 1000 false false Try.func72 rfl ?_
    ((try simp only [decide_eq_true_eq, decide_eq_false_iff_not, Bool.not_eq_true', Bool.not_eq_false', Bool.not_true, Bool.not_false, Bool.and_eq_true, Bool.or_eq_true, bne_iff_ne, beq_iff_eq, ne_eq]); (try simp only [rng, lo, hi, mnI, mxI, Int.toNat_natCast, Sg.n, Nat.mul_one, Nat.zero_add, Nat.add_zero, Nat.reduceAdd, List.getD_cons_zero, List.getD_cons_succ, hSh]))
    ((repeat' (first | (with_reducible apply And.intro) | intro _)); all_goals (first | exact trivial | (with_reducible assumption) | (show (_ : List Blk) = _; rfl) | (first | exact trivial | (with_reducible assumption) | omega | (split <;> omega) | (split <;> split <;> omega)) | skip); all_goals (try (refine ⟨rfl, (by first | exact Nat.le_refl _ | exact Nat.le_of_ble_eq_true rfl), rfl, rfl, ?_, (by repeat' (first | exact trivial | rfl | apply And.intro)), rfl, rfl⟩)))
    all_goals (try first | omega)
    all_goals (first | exact sameA_refl _ | trace_state)
end Go.Proofs.Ytgogccconmlkiaa
