/- The marks of the law on lists of lists: each inner row has its own block. -/
import Derived.Test.YtfelemoefhbphaaYdC
namespace Go.Proofs.Ytfelemoefhbphaa
open Go Go.Eng Go.RowKit
set_option maxRecDepth 100000
set_option maxHeartbeats 4000000

/-- Where the rows lie. -/
structure Nst (n0 k0 : Nat) (C0 : Array Value) (ks : Nat → Nat × Nat) (L : List (List (List Int))) : Prop where
  at0 : ∀ i, i < L.length → C0[i]? = some (.slice (some ⟨(ks i).1, 0, none⟩) (L.getD i []).length (ks i).2)
  old : ∀ i, i < L.length → n0 ≤ (ks i).1
  cap : ∀ i, i < L.length → (L.getD i []).length ≤ (ks i).2 ∧ (ks i).2 ≤ maxLen
  ne0 : ∀ i, i < L.length → (ks i).1 ≠ k0
  inj : ∀ i j, i < L.length → j < L.length → (ks i).1 = (ks j).1 → i = j
def mixY (k : Int) (L : List (List (List Int))) (j i : Nat) : List (List Int) := if i < j then mkL (endK k (L.take i)) (L.getD i []).length else L.getD i []
/-- What lies there when j rows are marked. -/
structure Inv (k0 : Nat) (C0 : Array Value) (ty0 : TypeId) (fz0 : Nat × Nat) (ks : Nat → Nat × Nat) (k : Int) (L : List (List (List Int))) (w : World) (j : Nat) : Prop where
  out : w.heap[k0]? = some (.cells C0 ty0 fz0)
  row : ∀ i, i < L.length → ∃ C, w.heap[(ks i).1]? = some (.cells C 37 (0, 0)) ∧ C.size = (ks i).2 * 2 ∧ rowsAt C .spot 0 (mixY k L j i)
theorem mixY_len (k : Int) (L : List (List (List Int))) (j i : Nat) : (mixY k L j i).length = (L.getD i []).length := by
  unfold mixY; split
  · exact mkL_len _ _
  · rfl
theorem mark_row {n0 k0 : Nat} {C0 : Array Value} {ty0 : TypeId} {fz0 : Nat × Nat} {ks : Nat → Nat × Nat} {k : Int} {L : List (List (List Int))} (hL : YdOk L) (hN : Nst n0 k0 C0 ks L) (hk : 0 ≤ k ∧ k ≤ 1000)
    {w : World} {j : Nat} (hj : j < L.length) (hI : Inv k0 C0 ty0 fz0 ks k L w j) :
    Calls Try.prog 20 #[.slice (some ⟨(ks j).1, 0, none⟩) (L.getD j []).length (ks j).2, .int .i64 (endK k (L.take j))] w fun e w' =>
      e = .returned (.int .i64 (endK k (L.take (j + 1)))) ∧ Inv k0 C0 ty0 fz0 ks k L w' (j + 1) ∧ Below n0 w w' := by
  obtain ⟨C, c1, c2, c3⟩ := hI.row j hj
  have hm : mixY k L j j = L.getD j [] := if_neg (Nat.lt_irrefl j)
  rw [hm] at c3
  obtain ⟨p1, p2⟩ := hN.cap j hj
  have hrow := hL.row _ (getD_mem (d := []) hj)
  have hend := endK_le (n := 100) (L.take j) k fun Y hY => (hL.row Y (List.mem_of_mem_take hY)).1
  have hln := hL.n
  have htl : (L.take j).length = j := by rw [List.length_take]; omega
  rw [htl] at hend
  have hend2 : endK k (L.take j) ≤ 1000 + 200 * 100 := by
    have : (2 * (100 : Nat) * j : Int) ≤ 200 * 100 := by omega
    omega
  have hstep := endK_take (k := k) hj
  have hdef : mixY k L (j + 1) j = mkL (endK k (L.take j)) (L.getD j []).length := if_pos (Nat.lt_succ_self j)
  generalize hK : endK k (L.take j) = K at *
  generalize hY : L.getD j [] = Y at *
  generalize hq : ks j = q at *
  obtain ⟨b, cap⟩ := q
  dsimp only at *
  have hS := s_markSpotS [.ow 0 Y.length .spot 37, .i .i64 K] [.l .spot Y] (.i .i64 (K + 2 * Y.length)) [.l .spot (mkL K Y.length)] _ rfl ⟨⟨rfl, by omega, by omega, by omega⟩, trivial⟩
  let ρ : Rho := ⟨fun _ => ⟨b, Y.length * 2, cap * 2, .spot, 37⟩, fun _ => none, trivial⟩
  have hb : b < w.heap.size := (Array.getElem?_eq_some_iff.1 c1).1
  have hM : MRel ρ [.l .spot Y] w := by
    refine ⟨fun id bk h => ?_, fun i j hi hj _ => ?_, fun id vs h => ?_, fun k o h => by cases h⟩
    · match id, h with
      | 0, h =>
        cases h
        exact ⟨C, c1, c2, rfl, rfl, by decide, rfl, Nat.mul_le_mul_right _ p1, c3⟩
      | id + 1, h => simp at h
    · have h1 := hi.lt
      have h2 := hj.lt
      simp only [List.length_cons, List.length_nil] at h1 h2
      omega
    · match id, h with
      | 0, h => cases h
      | id + 1, h => simp at h
  refine (hS ρ [.slice (some ⟨b, 0, none⟩) Y.length cap, .int .i64 K] w ⟨⟨cap, rfl, p1, p2, rfl, by decide, rfl, rfl, rfl⟩, ⟨rfl, by simp only [rng, lo, hi]; omega⟩, trivial⟩ hM (fun x hx i hi => by
    simp only [List.mem_cons, List.not_mem_nil, or_false] at hx
    rcases hx with rfl | rfl
    · simp [AV.ids] at hi; subst hi; exact Nat.zero_lt_one
    · simp [AV.ids] at hi)).mono ?_
  rintro e w' ⟨v, ρ', rfl, h1, h2, -⟩
  obtain ⟨rfl, -⟩ := h1
  have hlv : liveAt [Blk.l .spot Y] 0 := ⟨_, rfl, rfl⟩
  have hfr : ∀ b', b' < w.heap.size → b' ≠ b → w'.heap[b']? = w.heap[b']? := fun b' hb' hne => h2.frame b' hb' fun id hid => by
    show b ≠ b'
    exact fun e => hne e.symm
  refine ⟨by rw [hstep], ⟨?_, fun i hi => ?_⟩, ⟨h2.os, h2.tape, h2.output, h2.size, fun b' hb' => hfr b' ?_ ?_⟩⟩
  · have h0 := hN.ne0 j hj
    rw [hq] at h0
    rw [hfr k0 (Array.getElem?_eq_some_iff.1 hI.out).1 (fun e => h0 e.symm)]
    exact hI.out
  · by_cases hij : i = j
    · subst hij
      rw [hq, hdef]
      have hbl := h2.rel.blk 0 _ rfl
      rw [h2.ext 0 Nat.zero_lt_one] at hbl
      obtain ⟨C', d1, d2, -, -, -, -, -, d3⟩ := hbl
      exact ⟨C', d1, d2, d3⟩
    · obtain ⟨C', d1, d2, d3⟩ := hI.row i hi
      have hne : (ks i).1 ≠ b := fun e => hij (hN.inj i j hi hj (by rw [e, hq]))
      refine ⟨C', ?_, d2, ?_⟩
      · rw [hfr _ (Array.getElem?_eq_some_iff.1 d1).1 hne]; exact d1
      · have : mixY k L (j + 1) i = mixY k L j i := by
          unfold mixY
          by_cases g : i < j
          · rw [if_pos g, if_pos (by omega)]
          · rw [if_neg g, if_neg (by omega)]
        rw [this]; exact d3
  · have := hN.old j hj
    rw [hq] at this
    dsimp only at this
    omega
  · have := hN.old j hj
    rw [hq] at this
    dsimp only at this
    omega

/-- From what is told of frozen rows to where they lie. -/
theorem nst_of {n0 : Nat} {w : World} {L : List (List (List Int))} (hL : YdOk L) (h0 : L ≠ []) {u : Value} (h : FSS (hpN n0 w) .spot L u) (k : Int) :
    ∃ k0 C0 ty0 fz0 ks cap, u = .slice (some ⟨k0, 0, none⟩) L.length cap ∧ L.length ≤ cap ∧ Nst n0 k0 C0 ks L ∧ Inv k0 C0 ty0 fz0 ks k L w 0 ∧ n0 ≤ k0 := by
  obtain ⟨-, a, cap, rfl, hcap, hr⟩ := h
  rcases hr with hr | ⟨k0, o, C0, ty0, fz0, rfl, g1, g2, g3⟩
  · exact absurd hr h0
  obtain rfl : o = 0 := g2 rfl
  have up : ∀ {b : Nat} {o : Obj}, hpN n0 w b = some o → n0 ≤ b ∧ w.heap[b]? = some o := fun {b o} hb => by
    unfold hpN at hb
    split at hb
    · rename_i h; exact ⟨h, hb⟩
    · cases hb
  have key : ∀ i, i < L.length → ∃ q : Nat × Nat, C0[i]? = some (.slice (some ⟨q.1, 0, none⟩) (L.getD i []).length q.2) ∧ n0 ≤ q.1 ∧ (L.getD i []).length ≤ q.2 ∧ q.2 ≤ maxLen ∧ ∃ C, w.heap[q.1]? = some (.cells C 37 (0, 0)) ∧ C.size = q.2 * 2 ∧ rowsAt C .spot 0 (L.getD i []) := fun i hi => by
    have e : L[i]? = some (L.getD i []) := by rw [List.getD_eq_getElem?_getD, List.getElem?_eq_getElem hi]; rfl
    obtain ⟨y, hy, hy2⟩ := g3 i _ e
    rw [Nat.zero_add] at hy
    obtain ⟨-, -, -, a', cap', rfl, q1, q2⟩ := hy2
    rcases q2 with q2 | ⟨b, o', C, ty, fz, rfl, q3, q4, q5⟩
    · exact absurd q2 (hL.row _ (getD_mem hi)).2
    obtain ⟨rfl, e2, rfl, e4, rfl⟩ := q5 rfl
    obtain ⟨e5, e6⟩ := up q3
    exact ⟨(b, cap'), hy, e5, q1, e4, C, e6, e2, q4⟩
  classical
  let ks : Nat → Nat × Nat := fun i => if h : i < L.length then Classical.choose (key i h) else (0, 0)
  have hks : ∀ i, i < L.length → C0[i]? = some (.slice (some ⟨(ks i).1, 0, none⟩) (L.getD i []).length (ks i).2) ∧ n0 ≤ (ks i).1 ∧ (L.getD i []).length ≤ (ks i).2 ∧ (ks i).2 ≤ maxLen ∧ ∃ C, w.heap[(ks i).1]? = some (.cells C 37 (0, 0)) ∧ C.size = (ks i).2 * 2 ∧ rowsAt C .spot 0 (L.getD i []) := fun i hi => by
    have e : ks i = Classical.choose (key i hi) := dif_pos hi
    rw [e]
    exact Classical.choose_spec (key i hi)
  -- the first cell of a row, read off its block
  have fst : ∀ i, i < L.length → ∃ C x y, w.heap[(ks i).1]? = some (.cells C 37 (0, 0)) ∧ [x, y] ∈ L.getD i [] ∧ C[0]? = some (.int .i8 x) ∧ C[1]? = some (.int .i8 y) := fun i hi => by
    obtain ⟨-, -, -, -, C, d1, d2, d3⟩ := hks i hi
    have hne := (hL.row _ (getD_mem (d := []) hi)).2
    cases hY : L.getD i [] with
    | nil => exact absurd hY hne
    | cons r t =>
      rw [hY] at d3
      obtain ⟨r1, r2⟩ := d3 0 r rfl
      obtain ⟨x, y, rfl⟩ := len2 r1
      have a1 := (r2 0 x rfl).1
      have a2 := (r2 1 y rfl).1
      exact ⟨C, x, y, d1, List.mem_cons_self, a1, a2⟩
  have inj : ∀ i j, i < j → j < L.length → (ks i).1 ≠ (ks j).1 := fun i j hij hj e => by
    obtain ⟨C, x, y, d1, d2, d3, d4⟩ := fst i (by omega)
    obtain ⟨C', x', y', f1, f2, f3, f4⟩ := fst j hj
    rw [e] at d1
    rw [d1] at f1
    cases f1
    rw [d3] at f3
    rw [d4] at f4
    cases f3
    cases f4
    have hp := List.pairwise_iff_getElem.1 hL.dis i j (by omega) hj hij [x, y]
    have e1 : L.getD i [] = L[i] := by rw [List.getD_eq_getElem?_getD, List.getElem?_eq_getElem (by omega)]; rfl
    have e2 : L.getD j [] = L[j] := by rw [List.getD_eq_getElem?_getD, List.getElem?_eq_getElem hj]; rfl
    rw [e1] at d2
    rw [e2] at f2
    exact hp d2 f2
  obtain ⟨e5, e6⟩ := up g1
  refine ⟨k0, C0, ty0, fz0, ks, cap, rfl, hcap, ⟨fun i hi => (hks i hi).1, fun i hi => (hks i hi).2.1, fun i hi => ⟨(hks i hi).2.2.1, (hks i hi).2.2.2.1⟩, fun i hi e => ?_, fun i j hi hj e => ?_⟩, ⟨e6, fun i hi => ?_⟩, e5⟩
  · obtain ⟨C, x, y, d1, d2, d3, d4⟩ := fst i hi
    rw [e, e6] at d1
    cases d1
    have h00 := (hks 0 (by omega)).1
    rw [h00] at d3
    cases d3
  · rcases Nat.lt_trichotomy i j with h | h | h
    · exact absurd e (inj i j h hj)
    · exact h
    · exact absurd e.symm (inj j i h hi)
  · obtain ⟨-, -, -, -, C, d1, d2, d3⟩ := hks i hi
    exact ⟨C, d1, d2, d3⟩
/-- And back, when all are marked. -/
theorem fss_of {n0 k0 : Nat} {C0 : Array Value} {ty0 : TypeId} {fz0 : Nat × Nat} {ks : Nat → Nat × Nat} {k : Int} {L : List (List (List Int))} (hL : YdOk L) (hN : Nst n0 k0 C0 ks L) {w : World} (hI : Inv k0 C0 ty0 fz0 ks k L w L.length) {cap : Nat} (hc : L.length ≤ cap) (hk0 : n0 ≤ k0) :
    FSS (hpN n0 w) .spot (mkLL k L) (.slice (some ⟨k0, 0, none⟩) L.length cap) := by
  have hl := mkLL_len L k
  have up : ∀ {b : Nat} {o : Obj}, n0 ≤ b → w.heap[b]? = some o → hpN n0 w b = some o := fun h1 h2 => by unfold hpN; rw [if_pos h1]; exact h2
  refine ⟨by rw [hl]; exact Nat.le_trans hL.n (by decide), some ⟨k0, 0, none⟩, cap, by rw [hl], by rw [hl]; exact hc, .inr ⟨k0, 0, C0, ty0, fz0, rfl, up hk0 hI.out, fun _ => rfl, fun j rows hj => ?_⟩⟩
  have hjl : j < L.length := by rw [← hl]; exact (List.getElem?_eq_some_iff.1 hj).1
  have e : rows = mixY k L L.length j := by
    have : (mkLL k L).getD j [] = rows := by rw [List.getD_eq_getElem?_getD, hj]; rfl
    rw [← this, mkLL_get L k j hjl]
    exact (if_pos hjl).symm
  subst e
  obtain ⟨C, d1, d2, d3⟩ := hI.row j hjl
  obtain ⟨p1, p2⟩ := hN.cap j hjl
  have hm := mixY_len k L L.length j
  refine ⟨_, by rw [Nat.zero_add]; exact hN.at0 j hjl, rfl, by decide, by rw [hm]; exact Nat.le_trans p1 p2, some ⟨(ks j).1, 0, none⟩, (ks j).2, by rw [hm], by rw [hm]; exact p1, .inr ⟨_, 0, C, _, _, rfl, up (hN.old j hjl) d1, d3, fun _ => ⟨rfl, d2, rfl, p2, rfl⟩⟩⟩
end Go.Proofs.Ytfelemoefhbphaa
