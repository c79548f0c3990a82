/- A line that the spec reads, the program reads alike: plain. -/
import Derived.Test.YtplnfdgokpgbcaaDoorRgJ
namespace Go.Proofs.YtplnfdgokpgbcaaDoor
open Go Go.Eng
set_option linter.unusedSimpArgs false
set_option linter.unusedVariables false
set_option maxRecDepth 100000
set_option maxHeartbeats 4000000

theorem spX_eq {s : ByteArray} (h : spO s = true) : spX s = rsV (cutA s 44) ∧ spY s = rsV (cutZ s 44) := by
  obtain ⟨-, h2, h3, -, -⟩ := (spO_iff s).1 h
  obtain ⟨e1, e2⟩ := (rs_same s).2 h
  unfold spX spY
  rw [if_pos h, if_pos h, e1, e2]
  exact ⟨if_pos h2, if_pos h3⟩
theorem nI_nv {x : ByteArray} {m : Int} (hb : numB x = true) (hm : ¬ m < nv x) : numI x m = true ∧ nI x m = nv x := by
  have e : nv x = numK x x.size := if_pos hb
  have hI : numI x m = true := by
    unfold numI
    rw [hb, Bool.true_and]
    exact decide_eq_true (by omega)
  refine ⟨hI, ?_⟩
  unfold nI
  rw [if_pos hI, e]
theorem tie_eq {w : ByteArray} (h : ((splL w 126).length : Int) = 2) : cutA w 126 = tw w 0 ∧ cutZ w 126 = tw w 1 := by
  have e126 : (((126 : UInt8).toNat : Nat) : Int) = 126 := rfl
  obtain ⟨-, c2⟩ := cut_two (s := w) (b := 126) (by rw [e126]; omega)
  rw [e126] at c2
  unfold tw
  rw [c2]
  exact ⟨rfl, rfl⟩
theorem go_gi {s : ByteArray} (h : goP s) : giP (splL s 32) ∧ giV (splL s 32) = goV s := by
  obtain ⟨g1, g2, g3, g4, g5, g6⟩ := h
  have w0 : wd (splL s 32) 0 = gw s 0 := rfl
  have w1 : wd (splL s 32) 1 = gw s 1 := rfl
  have w2 : wd (splL s 32) 2 = gw s 2 := rfl
  have w3 : wd (splL s 32) 3 = gw s 3 := rfl
  have r0 : rsO (gw s 0) = true := by rw [(rs_same _).1]; exact g3
  obtain ⟨n1, n2⟩ := nI_nv g4 g5
  obtain ⟨x1, x2⟩ := spX_eq g3
  have hl : likV (gw s 3) = if gw s 3 = nearB then 1 else 0 := by
    unfold likV
    rcases g6 with g6 | g6
    · rw [if_pos g6, if_neg (by rw [g6]; decide)]
    · rw [if_neg (by rw [g6]; decide), if_pos g6]
      rw [if_pos g6]
  unfold giP giT giV goV
  rw [w0, w1, w2, w3]
  by_cases hf : gw s 1 = freeB
  · rw [if_pos hf, if_pos hf]
    exact ⟨⟨⟨g1, .inl hf⟩, r0, n1⟩, by rw [x1, x2, n2, hl]⟩
  · obtain ⟨t1, t2, t3, t4⟩ := g2.resolve_left hf
    obtain ⟨c1, c2⟩ := tie_eq t1
    obtain ⟨m1, m2⟩ := nI_nv t3 t4
    obtain ⟨y1, y2⟩ := spX_eq t2
    rw [if_neg hf, if_neg hf]
    unfold tiI
    rw [c1, c2]
    exact ⟨⟨⟨g1, .inr ⟨m1, by rw [(rs_same _).1]; exact t2⟩⟩, r0, n1⟩, by rw [x1, x2, y1, y2, n2, m2, hl]⟩
end Go.Proofs.YtplnfdgokpgbcaaDoor
