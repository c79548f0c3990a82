/- The marks' loop, and the law. -/
import Derived.Test.YtfelemoefhbphaaYdM
namespace Go.Proofs.Ytfelemoefhbphaa
open Go Go.Eng Go.RowKit
set_option maxRecDepth 100000
set_option maxHeartbeats 4000000

def markNS : Fun
  | [.fz .spot [], .i .i64 k], [] => some (.i .i64 k, [], [])
  | _, _ => .none
set_option maxRecDepth 100000 in
theorem s_markN : Sound Try.prog 25 markNS := by
  intro args M r M' vs h hvs
  unfold markNS at h
  split at h
  case h_2 => cases h
  rename_i k
  cases h
  refine SpecOK.assume fun hA hM => ?_
  have htb := (TbOk.nil : TbOk Try.prog tb0)
  refine SpecOK.of_goes [] Try.func25 rfl ?_
  clear hA hM
  refine Goes.tree Γ_ok htb 1000 false false Try.func25 rfl ?_
  refine ⟨?_⟩
  refine Goes.tree Γ_ok htb 1000 false false Try.func25 rfl ?_
  ((try simp only [decide_eq_true_eq, decide_eq_false_iff_not, Bool.not_eq_true', Bool.not_eq_false', Bool.not_true, Bool.not_false, Bool.and_eq_true, Bool.or_eq_true, bne_iff_ne, beq_iff_eq, ne_eq]); (try simp only [rng, lo, hi, mnI, mxI, Int.toNat_natCast, Sg.n, Nat.mul_one, Nat.zero_add, Nat.add_zero, Nat.reduceAdd, List.getD_cons_zero, List.getD_cons_succ]))
  ((repeat' (first | (with_reducible apply And.intro) | intro _)); all_goals (first | exact trivial | (with_reducible assumption) | (show (_ : List Blk) = _; rfl) | (first | exact trivial | (with_reducible assumption) | omega | (split <;> omega) | (split <;> split <;> omega)) | skip); all_goals (try (refine ⟨rfl, (by first | exact Nat.le_refl _ | exact Nat.le_of_ble_eq_true rfl), rfl, rfl, ?_, (by repeat' (first | exact trivial | rfl | apply And.intro)), rfl, rfl⟩)))
  all_goals (first | contradiction | exact sameA_refl _ | exact absurd (by decide) (by assumption) | trace_state)
theorem run_cell {w : World} {k o : Nat} {C : Array Value} {ty : TypeId} {fz : Nat × Nat} {v : Value} (h : w.heap[k]? = some (.cells C ty fz)) (hv : C[o]? = some v) : w.cell? ⟨k, o, none⟩ = some v := by
  simp [World.cell?, h, hv]
theorem c_mark {n0 : Nat} {w : World} {L : List (List (List Int))} (hL : YdOk L) {u : Value} (h : FSS (hpN n0 w) .spot L u) (hn : n0 ≤ w.heap.size) :
    Calls Try.prog 25 #[u, .int .i64 1] w fun e w' => e = .returned (.int .i64 (endK 1 L)) ∧ Below n0 w w' ∧ FSS (hpN n0 w') .spot (mkLL 1 L) u := by
  by_cases h0 : L = []
  · subst h0
    refine (call0 s_markN (r := .i .i64 1) (args := [.fz .spot [], .i .i64 1]) rfl trivial (F := hpN n0 w) (vals := [u, .int .i64 1]) hpN_le ⟨h, ⟨rfl, by simp only [rng, lo, hi]; omega⟩, trivial⟩ (fun x hx => by
      simp only [List.mem_cons, List.not_mem_nil, or_false] at hx
      rcases hx with rfl | rfl <;> rfl) rfl).mono ?_
    rintro e w' ⟨v, F', rfl, h1, h2, h3, h4, -⟩
    subst h4
    obtain ⟨g1, a, cap, g2, g3, -⟩ := h
    exact ⟨rfl, h1.mono hn, g1, a, cap, g2, g3, .inl rfl⟩
  · obtain ⟨k0, C0, ty0, fz0, ks, cap, rfl, hcap, hN, hI0, hk0⟩ := nst_of hL h0 h 1
    clear h
    have hln := hL.n
    have hF : ∀ {wr : World}, Inv k0 C0 ty0 fz0 ks 1 L wr L.length → FSS (hpN n0 wr) .spot (mkLL 1 L) (.slice (some ⟨k0, 0, none⟩) L.length cap) := fun hI => fss_of hL hN hI hcap hk0
    have hT : endK 1 (L.take L.length) = endK 1 L := by rw [List.take_length]
    go_enter Try.func25, Try.ntmps25
    go_wp2
    go_loopw [1, 5] (fun kv iv wr => ∃ j : Nat, j ≤ L.length ∧ iv = .int .i64 j ∧ kv = .int .i64 (endK 1 (L.take j)) ∧ Below n0 w wr ∧ Inv k0 C0 ty0 fz0 ks 1 L wr j) (fun _ iv _ => L.length - (intOf iv).toNat)
    case atStart => exact ⟨0, Nat.zero_le _, rfl, rfl, Below.refl _ _, hI0⟩
    case round =>
      obtain ⟨j, hj, rfl, rfl, hB, hI⟩ := hrel
      by_cases hlt : j < L.length
      · have hc : wr.cell? ⟨k0, j, none⟩ = some (.slice (some ⟨(ks j).1, 0, none⟩) (L.getD j []).length (ks j).2) := run_cell hI.out (hN.at0 j hlt)
        have hM := mark_row hL hN ⟨by decide, by decide⟩ hlt hI
        generalize (L.getD j []).length = nn at *
        generalize (ks j).1 = b at *
        generalize (ks j).2 = cp at *
        generalize hK2 : endK 1 (L.take (j + 1)) = K2 at *
        generalize endK 1 (L.take j) = K at *
        have HK2 : Hid (endK 1 (L.take (j + 1)) = K2) := hK2
        clear hK2 hF hT hI hN hL hI0 hcap hk0 hn
        go_wp2_with (go_at_call 20; (with_reducible refine hM.mono ?_); rintro e w' ⟨rfl, hI', hB'⟩)
        exact ⟨⟨j + 1, by omega, rfl, by rw [HK2.out], hB.trans hB', hI'⟩, by simp [intOf]; omega⟩
      · obtain rfl : j = L.length := by omega
        have hf := hF hI
        clear hF hN hL hI0 hcap hk0 hn hI
        rw [hT]
        clear hT
        go_wp2
        go_ret
        exact ⟨rfl, hB, hf⟩
end Go.Proofs.Ytfelemoefhbphaa
