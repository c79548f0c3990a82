/- The row Mown, plain: what the calls of the law answer at what it draws. -/
import Derived.Test.YtgogccconmlkiaaMw0
import Derived.Test.YtgogccconmlkiaaDraw4
import Derived.Test.YtgogccconmlkiaaNYardOf
import Derived.Test.YtgogccconmlkiaaNHayOf
import Derived.Test.YtgogccconmlkiaaNBestMowing
import Derived.Test.YtgogccconmlkiaaNGrassIn
import Derived.Test.YtgogccconmlkiaaTwo2
namespace Go.Proofs.Ytgogccconmlkiaa
open Go Go.Eng
set_option linter.unusedSimpArgs false
set_option linter.unusedVariables false
set_option maxRecDepth 100000
set_option maxHeartbeats 4000000

/-- What the law draws. -/
structure MwOk (P G S : List Int) (L D : Int) : Prop where
  len : P.length = 122
  ok : okP P
  g : okG G
  s : isP P S = true
  sl : S.length = 2
  l : 0 ≤ L ∧ L ≤ 8
  d : 1 ≤ D ∧ D ≤ 7
theorem mw_code {P G S : List Int} {L D : Int} (h : MwOk P G S L D) {q : List Int} (hf : FcS P q) (hq : okP q) : codeP q [S] = 0 ∧ mowC q S L = 0 ∧ (∀ d, 0 ≤ d → d ≤ 365 → hayC q G S d L = 0) := by
  have h1 : codeP q [S] = 0 := by rw [codeP_one, if_pos hq, if_pos ((isP_same hf S).trans h.s)]
  have h2 := h.l
  refine ⟨h1, ?_, fun d d0 d1 => ?_⟩
  · unfold mowC boundC
    rw [if_pos h1, if_pos (by omega)]
  · unfold hayC
    rw [if_pos ⟨hq, h.g⟩, if_pos h1, if_pos (by omega)]

theorem mw_hay {P G S : List Int} {L D : Int} (h : MwOk P G S L D) {q : List Int} (hf : FcS P q) (hq : okP q) {d : Int} (d0 : 0 ≤ d) (d1 : d ≤ 365) : hayV q G S d L = hayAt q G (yardR P S) L d.toNat := by
  rw [hayV, if_pos ((mw_code h hf hq).2.2 d d0 d1), yard_same hf]
structure DayOk (P G S : List Int) (Y : List (List Int)) (L : Int) (u : Nat) : Prop where
  c : daysC P G u = 0
  g : (if daysC P G u = 0 then growN G P (u : Int).toNat else List.replicate 122 0) = growN G P u
  p : mowYP (growN G P u) S L = mownP P G Y L u
  v : mowYV (growN G P u) S L = hayAt P G Y L u
  m : mowC (growN G P u) S L = 0
  h : ∀ w, 0 ≤ w → w ≤ 365 → hayC (mownP P G Y L u) G S w L = 0 ∧ hayV (mownP P G Y L u) G S w L = hayAt (mownP P G Y L u) G Y L w.toNat
theorem mw_day {P G S : List Int} {L D : Int} (h : MwOk P G S L D) (u : Nat) (hu : u ≤ 365) : DayOk P G S (yardR P S) L u := by
  have hc : daysC P G u = 0 := by unfold daysC; rw [if_pos ⟨h.ok, h.g⟩, if_pos (by omega)]
  obtain ⟨f1, f2⟩ := fc_days (g := G) h.len h.ok h.g u
  obtain ⟨-, hm, -⟩ := mw_code h f1 f2
  have hl := h.l
  obtain ⟨f3, f4⟩ := fc_mown (p := growN G P u) (s := S) (l := L) f1.len f2 hl.1 (by omega)
  rw [yard_same f1] at f3 f4
  have f5 : FcS P (mownP P G (yardR P S) L u) := f1.trans f3
  have f6 : okP (mownP P G (yardR P S) L u) := f4
  refine ⟨hc, by rw [if_pos hc, Int.toNat_natCast], ?_, ?_, hm, fun w w0 w1 => ⟨(mw_code h f5 f6).2.2 w w0 w1, mw_hay h f5 f6 w0 w1⟩⟩
  · rw [mowYP, if_pos hm, yard_same f1]; rfl
  · rw [mowYV, if_pos hm, yard_same f1]; rfl
theorem mw_hayOk {P G S : List Int} {L D : Int} (h : MwOk P G S L D) : hayOk P G (yardR P S) D L := by
  have h1 := h.l
  have h2 := h.d
  exact ⟨GR.of h.len h.ok, h.ok.1, h.g, yardR_cells h.ok.1, yardR_100 h.ok.1, by omega, by omega, by omega, by omega⟩
/-- The best day. -/
structure BestOk (P G S : List Int) (Y : List (List Int)) (L D : Int) (b : Nat × Int) : Prop where
  d : bmD P G S D L = b.1
  v : bmV P G S D L = b.2
  le : (b.1 : Int) ≤ D
  h : ∀ k : Nat, k ≤ D → hayAt P G Y L k ≤ b.2 ∧ (k < b.1 → hayAt P G Y L k < b.2) ∧ (k = b.1 → hayAt P G Y L k = b.2)
theorem mw_best {P G S : List Int} {L D : Int} (h : MwOk P G S L D) : ∃ b, BestOk P G S (yardR P S) L D b := by
  have h2 := h.d
  have hc := (mw_code h (FcS.refl h.len) h.ok).2.2 D (by omega) (by omega)
  obtain ⟨k1, k2, k3⟩ := bestK_ok (hayAt P G (yardR P S) L) D.toNat
  have k4 := bestK_max (hayAt P G (yardR P S) L) D.toNat
  refine ⟨bestK (hayAt P G (yardR P S) L) D.toNat, by rw [bmD, if_pos hc], by rw [bmV, if_pos hc], by omega, fun k hk => ⟨k4 k (by omega), k3 k, fun e => by rw [e]; exact k2⟩⟩
/-- The best two days. -/
structure TwoOk (P G S : List Int) (Y : List (List Int)) (L D : Int) (a b m : Int) : Prop where
  ec : twC P G S D L = 0
  ea : twA P G S D L = a
  eb : twB P G S D L = b
  em : twM P G S D L = m
  rng : 0 ≤ a ∧ a < b ∧ b ≤ D
  h : ∀ (u : Nat) (v : Int), (u : Int) < v → v ≤ D → hayAt P G Y L u + hayAt (mownP P G Y L u) G Y L (v - u).toNat ≤ m ∧ (((u : Int) < a ∨ ((u : Int) = a ∧ v < b)) → hayAt P G Y L u + hayAt (mownP P G Y L u) G Y L (v - u).toNat < m) ∧ ((u : Int) = a → v = b → hayAt P G Y L u + hayAt (mownP P G Y L u) G Y L (v - u).toNat = m)
theorem mw_two {P G S : List Int} {L D : Int} (h : MwOk P G S L D) : ∃ a b m, TwoOk P G S (yardR P S) L D a b m := by
  have h2 := h.d
  have hc := (mw_code h (FcS.refl h.len) h.ok).2.2 D (by omega) (by omega)
  have ht : twC P G S D L = 0 := by unfold twC; rw [if_pos hc, if_neg (by omega), if_neg (by omega)]
  obtain ⟨-, o2⟩ := twO_ok (mw_hayOk h) D.toNat D.toNat (Nat.le_refl _)
  obtain ⟨q, hq⟩ := Option.isSome_iff_exists.1 (o2 (by omega))
  obtain ⟨t1, t2, t3, t4, t5⟩ := two_best (by omega) hq
  have hr : twR P G S D L = some q := hq
  refine ⟨q.1, q.2.1, q.2.2, ht, by rw [twA, if_pos ht, hr]; rfl, by rw [twB, if_pos ht, hr]; rfl, by rw [twM, if_pos ht, hr]; rfl, by omega, fun u v hv hvd => ?_⟩
  obtain ⟨t6, t7⟩ := t5 u v (by omega) hv (by omega)
  refine ⟨t6, t7, fun e f => ?_⟩
  rw [← e, ← f] at t4
  exact t4
end Go.Proofs.Ytgogccconmlkiaa
