/- strings.Builder: what is written into it, and its text. -/
import Derived.Test.YtplnfdgokpgbcaaDoorTxt
namespace Go.Proofs.YtplnfdgokpgbcaaDoor
open Go Go.Eng
set_option linter.unusedSimpArgs false
set_option linter.unusedVariables false
set_option maxRecDepth 100000
set_option maxHeartbeats 4000000

theorem bytes_app (a b : List (List Int)) : bytesR (a ++ b) = bytesR a ++ bytesR b := by
  rw [ByteArray.ext_iff]
  simp [bytesR]
theorem bytes_str (s : ByteArray) : bytesR (strRows s) = s := by
  rw [ByteArray.ext_iff]
  apply Array.ext'
  simp only [bytesR, strRows, List.map_map]
  conv => rhs; rw [← List.map_id s.data.toList]
  refine List.map_congr_left fun b _ => ?_
  simp

/-- One of two that are told. -/
def altS (S T : Fun) : Fun := fun args M => match S args M with
  | some r => some r
  | .none => T args M
theorem alt_sound {f : FuncId} {S T : Fun} (h1 : Sound Tryd.prog f S) (h2 : Sound Tryd.prog f T) : Sound Tryd.prog f (altS S T) := by
  intro args M r M' vs h hv
  unfold altS at h
  split at h
  · rename_i r0 h0
    cases h
    exact h1 _ _ _ _ _ h0 hv
  · exact h2 _ _ _ _ _ h hv

def cop1S : Fun
  | [.rp 0 0 2 85], [.r [.np, .nsl]] => some (.v (.tuple #[]), [.r [.rp 0 0 2 85, .nsl]], [])
  | _, _ => .none
set_option maxRecDepth 100000 in
theorem s_cop1 : Sound Tryd.prog 87 cop1S := by
  intro args M r M' vs h hvs
  unfold cop1S at h
  split at h
  case h_2 => cases h
  cases h
  refine SpecOK.assume fun hA hM => ?_
  have htb := (TbOk.nil : TbOk Tryd.prog tb0)
  refine SpecOK.of_goes [0] Tryd.func87 rfl ?_
  clear hA hM
  refine Goes.tree Γ_ok htb 1000 false false Tryd.func87 rfl ?_
  ((try simp only [decide_eq_true_eq, decide_eq_false_iff_not, Bool.not_eq_true', Bool.not_eq_false', Bool.not_true, Bool.not_false, Bool.and_eq_true, Bool.or_eq_true, bne_iff_ne, beq_iff_eq, ne_eq]); (try simp only [rng, lo, hi, mnI, mxI, Int.toNat_natCast, Sg.n, Nat.mul_one, Nat.zero_add, Nat.add_zero, Nat.reduceAdd, List.getD_cons_zero, List.getD_cons_succ]))
  ((repeat' (first | (with_reducible apply And.intro) | intro _)); all_goals (first | exact trivial | (with_reducible assumption) | (show (_ : List Blk) = _; rfl) | (first | exact trivial | (with_reducible assumption) | omega | (split <;> omega) | (split <;> split <;> omega)) | skip); all_goals (try (refine ⟨rfl, (by first | exact Nat.le_refl _ | exact Nat.le_of_ble_eq_true rfl), rfl, rfl, ?_, (by repeat' (first | exact trivial | rfl | apply And.intro)), rfl, rfl⟩)))
  all_goals exact sameA_refl _
def cop2S : Fun
  | [.rp 0 0 2 85], [.r [.rp 0 0 2 85, .ow 1 n .u8 5], .l .u8 rows] => some (.v (.tuple #[]), [.r [.rp 0 0 2 85, .ow 1 n .u8 5], .l .u8 rows], [])
  | _, _ => .none
set_option maxRecDepth 100000 in
theorem s_cop2 : Sound Tryd.prog 87 cop2S := by
  intro args M r M' vs h hvs
  unfold cop2S at h
  split at h
  case h_2 => cases h
  rename_i n rows
  cases h
  refine SpecOK.assume fun hA hM => ?_
  have htb := (TbOk.nil : TbOk Tryd.prog tb0)
  refine SpecOK.of_goes [0, 1] Tryd.func87 rfl ?_
  clear hA hM
  refine Goes.tree Γ_ok htb 1000 false false Tryd.func87 rfl ?_
  ((try simp only [decide_eq_true_eq, decide_eq_false_iff_not, Bool.not_eq_true', Bool.not_eq_false', Bool.not_true, Bool.not_false, Bool.and_eq_true, Bool.or_eq_true, bne_iff_ne, beq_iff_eq, ne_eq]); (try simp only [rng, lo, hi, mnI, mxI, Int.toNat_natCast, Sg.n, Nat.mul_one, Nat.zero_add, Nat.add_zero, Nat.reduceAdd, List.getD_cons_zero, List.getD_cons_succ]))
  ((repeat' (first | (with_reducible apply And.intro) | intro _)); all_goals (first | exact trivial | (with_reducible assumption) | (show (_ : List Blk) = _; rfl) | (first | exact trivial | (with_reducible assumption) | omega | (split <;> omega) | (split <;> split <;> omega)) | skip); all_goals (try (refine ⟨rfl, (by first | exact Nat.le_refl _ | exact Nat.le_of_ble_eq_true rfl), rfl, rfl, ?_, (by repeat' (first | exact trivial | rfl | apply And.intro)), rfl, rfl⟩)))
  all_goals exact sameA_refl _
theorem s_cop : Sound Tryd.prog 87 (altS cop1S cop2S) := alt_sound s_cop1 s_cop2

def wr1S : Fun
  | [.rp 0 0 2 85, .s s], [.r [.np, .nsl]] => some (.t2 (.i .i64 (s.size : Int)) .any, [.r [.rp 0 0 2 85, .ow 1 (strRows s).length .u8 5], .l .u8 (strRows s)], [0 < s.size ∧ s.size ≤ 1073741824])
  | _, _ => .none
set_option maxRecDepth 100000 in
theorem s_wr1 : Sound Tryd.prog 47 wr1S := by
  intro args M r M' vs h hvs
  unfold wr1S at h
  split at h
  case h_2 => cases h
  rename_i s
  cases h
  refine SpecOK.assume fun hA hM => ?_
  have htb := (TbOk.cons s_cop Tryd.func87 rfl rfl (TbOk.nil : TbOk Tryd.prog tb0))
  refine SpecOK.of_goes [0, 1] Tryd.func47 rfl ?_
  obtain ⟨⟨h0, h1⟩, -⟩ := hvs
  have hl := strRows_len s
  clear hA hM
  refine Goes.tree Γ_ok htb 1000 false false Tryd.func47 rfl ?_
  ((try simp only [decide_eq_true_eq, decide_eq_false_iff_not, Bool.not_eq_true', Bool.not_eq_false', Bool.not_true, Bool.not_false, Bool.and_eq_true, Bool.or_eq_true, bne_iff_ne, beq_iff_eq, ne_eq]); (try simp only [rng, lo, hi, mnI, mxI, Int.toNat_natCast, Sg.n, Nat.mul_one, Nat.zero_add, Nat.add_zero, Nat.reduceAdd, List.getD_cons_zero, List.getD_cons_succ]))
  ((repeat' (first | (with_reducible apply And.intro) | intro _)); all_goals (first | exact trivial | (with_reducible assumption) | (show (_ : List Blk) = _; rfl) | (first | exact trivial | (with_reducible assumption) | omega | (split <;> omega) | (split <;> split <;> omega)) | skip); all_goals (try (refine ⟨rfl, (by first | exact Nat.le_refl _ | exact Nat.le_of_ble_eq_true rfl), rfl, rfl, ?_, (by repeat' (first | exact trivial | rfl | apply And.intro)), rfl, rfl⟩)))
  all_goals exact sameA_refl _
def wr2S : Fun
  | [.rp 0 0 2 85, .s s], [.r [.rp 0 0 2 85, .ow 1 n .u8 5], .l .u8 rows] => some (.t2 (.i .i64 (s.size : Int)) .any, [.r [.rp 0 0 2 85, .ow 2 (rows ++ strRows s).length .u8 5], .dead, .l .u8 (rows ++ strRows s)], [rows.length + s.size ≤ 1073741824])
  | _, _ => .none
set_option maxRecDepth 100000 in
theorem s_wr2 : Sound Tryd.prog 47 wr2S := by
  intro args M r M' vs h hvs
  unfold wr2S at h
  split at h
  case h_2 => cases h
  rename_i s n rows
  cases h
  refine SpecOK.assume fun hA hM => ?_
  have htb := (TbOk.cons s_cop Tryd.func87 rfl rfl (TbOk.nil : TbOk Tryd.prog tb0))
  refine SpecOK.of_goes [0, 1, 2] Tryd.func47 rfl ?_
  obtain ⟨h1, -⟩ := hvs
  have hl := strRows_len s
  have hl2 : (rows ++ strRows s).length = rows.length + s.size := by rw [List.length_append, hl]
  clear hA hM
  refine Goes.tree Γ_ok htb 1000 false false Tryd.func47 rfl ?_
  ((try simp only [decide_eq_true_eq, decide_eq_false_iff_not, Bool.not_eq_true', Bool.not_eq_false', Bool.not_true, Bool.not_false, Bool.and_eq_true, Bool.or_eq_true, bne_iff_ne, beq_iff_eq, ne_eq]); (try simp only [rng, lo, hi, mnI, mxI, Int.toNat_natCast, Sg.n, Nat.mul_one, Nat.zero_add, Nat.add_zero, Nat.reduceAdd, List.getD_cons_zero, List.getD_cons_succ]))
  ((repeat' (first | (with_reducible apply And.intro) | intro _)); all_goals (first | exact trivial | (with_reducible assumption) | (show (_ : List Blk) = _; rfl) | (first | exact trivial | (with_reducible assumption) | omega | (split <;> omega) | (split <;> split <;> omega)) | skip); all_goals (try (refine ⟨rfl, (by first | exact Nat.le_refl _ | exact Nat.le_of_ble_eq_true rfl), rfl, rfl, ?_, (by repeat' (first | exact trivial | rfl | apply And.intro)), rfl, rfl⟩)))
  all_goals exact sameA_refl _
theorem s_wr : Sound Tryd.prog 47 (kill (altS wr1S wr2S)) := kill_sound (alt_sound s_wr1 s_wr2)

/-! Its text: the kit's walk, with all that it leaves as it was. -/
open Go.Shelf Go.RowKit in
theorem bld_text {ρ : Ren} (L : Lays.n169 Tryd.prog ρ) (X : Builder.Extra Tryd.prog ρ) (b g cap : Nat) (p : Value) (cur : Array Value) (l : List UInt8) (w : World) (hbk : w.heap[b]? = some (.cells #[p, .slice (some ⟨g, 0, none⟩) l.length cap] (ρ.t 72) (0, 0)))
    (hg : w.heap[g]? = some (.cells cur (ρ.t 5) (0, 0))) (hnc : l.length ≤ cap) (hcm : cap ≤ maxLen) (hcs : cur.size = cap) (hbytes : ∀ (j : Nat) (x : UInt8), l[j]? = some x → cur[j]? = some (Value.int .u8 x.toNat)) (h0 : l ≠ []) :
    Calls Tryd.prog (ρ.f 169) #[.pointer (some ⟨b, 0, none⟩)] w fun e w' => e = .returned (.string ⟨l.toArray⟩) ∧ ∃ w1 : World, w1.os = w.os ∧ w1.tape = w.tape ∧ w1.output = w.output ∧ w1.heap = w.heap ∧ w' = w1.freeze ⟨g, 0, none⟩ l.length := by
  have hl0 : l.length ≠ 0 := by simpa using h0
  have c1 : w.drew.cell? ⟨b, 1, none⟩ = some (.slice (some ⟨g, 0, none⟩) l.length cap) := by
    have : w.drew.heap[b]? = some (.cells #[p, .slice (some ⟨g, 0, none⟩) l.length cap] (ρ.t 72) (0, 0)) := hbk
    rw [Lib.cell_of_heap this]; rfl
  have hSD : (Builtin.unsafeSliceData_ #[(ρ.t 37)] (ρ.t 127) #[.slice (some ⟨g, 0, none⟩) l.length cap]).run Tryd.prog w.drew = .ok (.pointer (some ⟨g, 0, none⟩)) w.drew :=
    Lib.run_unsafeSliceData_row _ _ _ _ _ _ (by omega)
  have hUS : (Builtin.unsafeString_ #[(ρ.t 127), (ρ.t 3)] (ρ.t 9) #[.pointer (some ⟨g, 0, none⟩), .int .i64 l.length]).run Tryd.prog w.drew = .ok (.string ⟨l.toArray⟩) (w.drew.freeze ⟨g, 0, none⟩ l.length) := by
    refine Lib.run_unsafeString_row w.drew (ρ.t 127) (ρ.t 3) (ρ.t 9) (ρ.t 5) L.t127 X.cellsByte g cur.size (by have hg' : w.drew.heap[g]? = some (.cells cur (ρ.t 5) (0, 0)) := hg; simp [World.shape?, hg']) l h0 (by omega) (by unfold maxLen at hcm; omega) ?_
    intro j x hx
    have hg' : w.drew.heap[g]? = some (.cells cur (ρ.t 5) (0, 0)) := hg
    rw [add_addr, Lib.cell_of_heap hg', Nat.zero_add]
    exact hbytes j x hx
  have mixed := L.mixed
  have t72 := L.t72; have a72 := L.a72; have z72 := L.z72; have v72 := L.v72; have u72 := run_underlying L.t72
  have t70 := L.t70; have a70 := L.a70; have z70 := L.z70; have v70 := L.v70; have u70 := run_underlying L.t70
  have t37 := L.t37; have a37 := L.a37; have z37 := L.z37; have v37 := L.v37; have u37 := run_underlying L.t37
  have t127 := L.t127; have a127 := L.a127; have z127 := L.z127; have v127 := L.v127; have u127 := run_underlying L.t127
  have t3 := L.t3; have a3 := L.a3; have z3 := L.z3; have v3 := L.v3; have u3 := run_underlying L.t3
  have t9 := L.t9; have a9 := L.a9; have z9 := L.z9; have v9 := L.v9; have u9 := run_underlying L.t9
  have t5 := X.t5; have a5 := X.a5; have z5 := X.z5; have v5 := X.v5; have u5 := run_underlying X.t5
  go_enter L.f169, Body.n169_ntmps ρ
  go_wp2
  go_region_o
  all_goals (go_wp2; go_ret; exact ⟨rfl, w.drew, rfl, rfl, rfl, rfl, rfl⟩)

theorem freeze_facts (w : World) (g n : Nat) : (w.freeze ⟨g, 0, none⟩ n).os = w.os ∧ (w.freeze ⟨g, 0, none⟩ n).tape = w.tape ∧ (w.freeze ⟨g, 0, none⟩ n).output = w.output ∧ (w.freeze ⟨g, 0, none⟩ n).heap.size = w.heap.size ∧ ∀ k, k ≠ g → (w.freeze ⟨g, 0, none⟩ n).heap[k]? = w.heap[k]? := by
  unfold World.freeze
  split
  · exact ⟨rfl, rfl, rfl, rfl, fun _ _ => rfl⟩
  · refine ⟨rfl, rfl, rfl, by simp, fun k hk => ?_⟩
    simp only [Array.getElem?_modify]
    rw [if_neg (fun e => hk e.symm)]

def str1S : Fun
  | [.rp 0 0 2 85], [.r [.np, .nsl]] => some (.s ⟨#[]⟩, [.dead], [])
  | _, _ => .none
theorem s_str1 : Sound Tryd.prog 49 str1S := by
  intro args M r M' vs h hvs
  unfold str1S at h
  split at h
  case h_2 => cases h
  cases h
  intro ρ vals w hD hM hid
  match vals, hD with
  | [v], ⟨hv, _⟩ =>
  obtain ⟨rfl, d1, d2, d3, d4, d5⟩ := hv
  obtain ⟨C, c1, c2, c3, c4, c5, c6⟩ := hM.blk 0 _ rfl
  obtain ⟨y, y1, y2, -⟩ := c6 0 _ rfl
  obtain ⟨z, z1, z2, -⟩ := c6 1 _ rfl
  simp only [Den] at y2 z2
  subst y2 z2
  have hC : C = #[.pointer none, .slice none 0 0] := by
    apply Array.ext_getElem?
    intro j
    match j with
    | 0 => exact y1
    | 1 => exact z1
    | j + 2 => rw [Array.getElem?_eq_none (by omega), Array.getElem?_eq_none (by simp)]
  rw [hC, d4] at c1
  refine (Any.Builder_String_nil Tryd.lays169 Tryd.Builder_Extra_169 w.heap.size (ρ 0).blk _ w c1).mono ?_
  rintro e w' ⟨rfl, hb⟩
  refine ⟨_, ρ, rfl, ⟨rfl, by decide⟩, ?_, fun i hi => (by simp [AV.ids] at hi)⟩
  have hA := After.quietM (M := [.dead]) (ρ := ρ) (w := w) (w' := w') ⟨fun id b hb => ?_, ?_, ?_, ?_⟩ hb
  · refine ⟨hA.ext, hA.rel, hA.len, fun id hid hl => ?_, fun id hid hl => ?_, fun b hb hn => hA.frame b hb ?_, hA.os, hA.tape, hA.output, hA.size, hA.fmono, fun k o hk => .inl hk⟩
    · obtain ⟨b, hb, hv⟩ := hl
      match id, hb with
      | 0, hb => cases hb; cases hv
    · obtain ⟨b, hb, hv⟩ := hl
      match id, hb with
      | 0, hb => cases hb; cases hv
    · intro id hl
      obtain ⟨b, hb, hv⟩ := hl
      match id, hb with
      | 0, hb => cases hb; cases hv
  · match id, hb with
    | 0, hb => cases hb; trivial
  · intro i j hi hj he
    obtain ⟨b, hb, hv⟩ := hi
    match i, hb with
    | 0, hb => cases hb; cases hv
  · intro id vs hb
    match id, hb with
    | 0, hb => cases hb
  · intro k o hk
    refine ⟨(hM.env k o hk).1, fun i hl => ?_⟩
    obtain ⟨b, hb, hv⟩ := hl
    match i, hb with
    | 0, hb => cases hb; cases hv

def str2S : Fun
  | [.rp 0 0 2 85], [.r [.rp 0 0 2 85, .ow 1 n .u8 5], .l .u8 rows] => some (.s (bytesR rows), [.dead, .dead], [0 < rows.length])
  | _, _ => .none
theorem row1_byte {C : Array Value} {rows : List (List Int)} (h : rowsAt C .u8 0 rows) {j : Nat} {b : UInt8} (hj : (bytesR rows).data.toList[j]? = some b) : C[j]? = some (.int .u8 b.toNat) := by
  unfold bytesR at hj
  simp only [List.getElem?_map, Option.map_eq_some_iff] at hj
  obtain ⟨row, hr, rfl⟩ := hj
  obtain ⟨h1, h2⟩ := h j row hr
  have hlt : 0 < row.length := by rw [h1]; decide
  obtain ⟨h3, h4⟩ := h2 0 row[0] (List.getElem?_eq_getElem hlt)
  have e : 0 + j * Sg.u8.n + 0 = j := by simp [Sg.n]
  rw [e] at h3
  have e0 : row.getD 0 0 = row[0] := by rw [List.getD_eq_getElem?_getD, List.getElem?_eq_getElem hlt]; rfl
  rw [h3, e0]
  have h5 : 0 ≤ row[0] ∧ row[0] ≤ 255 := h4
  show some (Value.int .u8 row[0]) = _
  congr 2
  have : (UInt8.ofNat row[0].toNat).toNat = row[0].toNat := by
    rw [UInt8.toNat_ofNat']
    omega
  rw [this]; omega
theorem s_str2 : Sound Tryd.prog 49 str2S := by
  intro args M r M' vs h hvs
  unfold str2S at h
  split at h
  case h_2 => cases h
  rename_i n rows
  cases h
  obtain ⟨hn, -⟩ := hvs
  intro ρ vals w hD hM hid
  match vals, hD with
  | [v], ⟨hv, _⟩ =>
  obtain ⟨rfl, d1, d2, d3, d4, d5⟩ := hv
  obtain ⟨C, c1, c2, c3, c4, c5, c6⟩ := hM.blk 0 _ rfl
  obtain ⟨y, y1, y2, -⟩ := c6 0 _ rfl
  obtain ⟨z, z1, z2, -⟩ := c6 1 _ rfl
  obtain ⟨cap, rfl, q1, q2, q3, q4, q5, q6, q7⟩ := z2
  obtain ⟨R, r1, r2, r3, r4, r5, r6, r7, r8⟩ := hM.blk 1 _ rfl
  have hC : C = #[y, .slice (some ⟨(ρ 1).blk, 0, none⟩) n cap] := by
    apply Array.ext_getElem?
    intro j
    match j with
    | 0 => exact y1
    | 1 => exact z1
    | j + 2 => rw [Array.getElem?_eq_none (by omega), Array.getElem?_eq_none (by simp)]
  rw [hC, d4] at c1
  rw [q7] at r1
  have hlen : rows.length = n := by simp only [Sg.n] at r6 q5; omega
  have hbl : (bytesR rows).data.toList.length = n := by simp [bytesR, hlen]
  have hsz : (bytesR rows).size = n := by rw [← hbl, Array.length_toList]; rfl
  have hR : R.size = cap := by rw [r2, q6]; simp [Sg.n]
  refine (bld_text Tryd.lays169 Tryd.Builder_Extra_169 (ρ 0).blk (ρ 1).blk cap y R (bytesR rows).data.toList w (by rw [hbl]; exact c1) r1 (by omega) q2 hR (fun j x hj => row1_byte r8 hj) (fun e => by rw [e] at hbl; simp at hbl; omega)).mono ?_
  rintro e w' ⟨rfl, w1, e1, e2, e3, e4, rfl⟩
  obtain ⟨f1, f2, f3, f4, f5⟩ := freeze_facts w1 (ρ 1).blk (bytesR rows).data.toList.length
  have nl : ∀ i, ¬ liveAt [Blk.dead, .dead] i := by
    rintro i ⟨b, hb, hv⟩
    match i, hb with
    | 0, hb => cases hb; cases hv
    | 1, hb => cases hb; cases hv
  refine ⟨_, ρ, rfl, ⟨rfl, ?_⟩, ⟨fun _ _ => rfl, ⟨fun id b hb => ?_, fun i j hi => absurd hi (nl i), fun id vs hb => ?_, fun k o hk => ⟨?_, fun i hi => absurd hi (nl i)⟩⟩, Nat.le_refl _, fun id _ hl => absurd hl (nl id), fun id _ hl => absurd hl (nl id), fun b hb hnl => ?_, by rw [f1, e1], by rw [f2, e2], by rw [f3, e3], by rw [f4, e4]; exact Nat.le_refl _, ρ.le_refl, fun k o hk => .inl hk⟩, fun i hi => (by simp [AV.ids] at hi)⟩
  · show (bytesR rows).size ≤ maxLen
    omega
  · match id, hb with
    | 0, hb => cases hb; trivial
    | 1, hb => cases hb; trivial
  · match id, hb with
    | 0, hb => cases hb
    | 1, hb => cases hb
  · obtain ⟨g1, g2⟩ := hM.env k o hk
    rw [f5 k (fun e => g2 1 ⟨_, rfl, rfl⟩ e.symm), e4]
    exact g1
  · rw [f5 b (fun e => hnl 1 ⟨_, rfl, rfl⟩ e.symm), e4]
theorem s_str : Sound Tryd.prog 49 (altS str1S str2S) := alt_sound s_str1 s_str2
end Go.Proofs.YtplnfdgokpgbcaaDoor
