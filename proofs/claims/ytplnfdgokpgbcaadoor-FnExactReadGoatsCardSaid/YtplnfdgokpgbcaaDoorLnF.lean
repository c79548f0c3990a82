/- The program's ReadGoats: the whole function. -/
import Derived.Test.YtplnfdgokpgbcaaDoorLnG
namespace Go.Proofs.YtplnfdgokpgbcaaDoor
open Go Go.Eng Go.RowKit
set_option maxRecDepth 100000
set_option maxHeartbeats 4000000

theorem rg_calls {s : ByteArray} (hs : s.size ≤ 1048576) {ρ0 : Rho} {w0 : World} (hM : MRel ρ0 [] w0) :
    Calls Tryd.prog 30 #[.string s] w0 fun e w' =>
      (gsP s ∧ ∃ v ρ', e = .returned v ∧ Den ρ' (.t2 (.ow 0 (gsV (splL s 10) (gsN s)).length .goat 74) (.i .i64 0)) v ∧ After ρ0 [] [.l .goat (gsV (splL s 10) (gsN s))] w0 w' ρ') ∨
      (¬ gsP s ∧ ∃ v ρ', e = .returned v ∧ Den ρ' (.t2 .nsl (.i .i64 5)) v ∧ After ρ0 [] [] w0 w' ρ') := by
  have htb := (TbOk.cons s_lines Tryd.func71 rfl rfl (TbOk.cons s_goatsO Tryd.func15 rfl rfl (TbOk.nil : TbOk Tryd.prog tb0)))
  have eg : ∀ args w, (callFunc 98 args).run Tryd.prog w = .ok (.enter 98 args) w := enters_of Tryd.func98 (by kernel_rfl) rfl
  refine (callsIn_wide (n := 0)).1 ?_
  show CallsIn (fenceR none) 0 _ _ _ _ _
  refine callsIn_of_wp_marks Tryd.func30 rfl trivial ?_
  have hF0 : FRel ρ0 0 ([.s s] ++ List.replicate (30 - 1) .any) { tmps := #[.string s] ++ Array.replicate (30 - 1) undef, defers := [] } :=
    frel_enter (N := 30) (args := [.s s]) (vals := [.string s]) ⟨⟨rfl, by show _ ≤ 9223372036854775807; omega⟩, trivial⟩ (fun x hx i hi => by
      rw [List.mem_singleton] at hx; subst hx; cases hi)
  refine seq_in Γ_ok htb (wr := false) [] hF0 hM rfl (by repeat' (first | exact trivial | rfl | apply And.intro)) rfl ?_
  intro a1 W1 ρ1 hA1 hF1 hd1
  refine seq_in Γ_ok htb (wr := false) [] hF1 hA1.rel rfl (by repeat' (first | exact trivial | rfl | apply And.intro)) rfl ?_
  intro a2 W2 ρ2 hA2 hF2 hd2
  refine wpIn_seq_k fun K hK => ?_
  refine seq_in Γ_ok htb (wr := false) [] hF2 hA2.rel rfl (by repeat' (first | exact trivial | rfl | apply And.intro)) rfl ?_
  intro a3 W3 ρ3 hA3 hF3 hd3
  have hA : After ρ0 [] (nf s []) w0 W3 ρ3 := hA1.trans (hA2.trans hA3)
  have g10 : a3.eval (.tmp 10) = .func (.func 98) #[] #[.pointer (some ⟨(ρ3 4).blk, 0, none⟩)] := (hF3.at 10 rfl).1
  refine wpIn_block ?_
  refine range_in g10 eg fun fn => ?_
  refine CallsIn.mono (lines_iter (tm := a3.tmps) (D := W3.heap.size) (fn := fn) hs (rg_round hs rfl) (ρ0 := ρ0) (w0 := w0) (ρ := ρ3) ?_) ?_
  · exact Mem.start hA ((hF3.weak (by repeat' (first | exact trivial | rfl | apply And.intro))).same rfl) _
  have d3 : a3.defers = [] := by rw [hd3, hd2, hd1]
  rintro e W5 ⟨⟨v, rfl⟩, (⟨ρ5, m5, hall⟩ | ⟨hbad, ρ5, m5⟩)⟩
  · obtain ⟨W6, e6, m6⟩ := m5.quit (by simp [lpR])
    show ∃ jump w4, _ ∧ _
    refine ⟨none, W6, e6, ?_⟩
    show K _ _
    refine hK _ _ ?_
    refine wpIn_seq_k fun K2 hK2 => ?_
    refine seq_in Γ_ok htb (wr := false) [] (m6.frame.same rfl) m6.after.rel rfl ?_ rfl ?_
    · refine ⟨⟨rfl, ?_⟩, trivial⟩
      have h2 := dropE_len (splL s 10)
      have h3 := splL_len s 10
      rw [List.length_map]
      unfold lnL
      omega
    intro a7 W7 ρ7 hA7 hF7 hd7
    have m7 := m6.on hA7
    by_cases ht : goaT ((lnL s).map rdV) = s
    · refine cond_in [false] hF7 rfl (by exact ⟨by rw [ht]; simp, trivial⟩) fun hF7 => ?_
      refine wpIn_skip ?_
      show K2 _ _
      refine hK2 _ _ ?_
      refine seq_in Γ_ok htb (wr := false) [] hF7 m7.after.rel rfl (by repeat' (first | exact trivial | rfl | apply And.intro)) rfl ?_
      intro a8 W8 ρ8 hA8 hF8 hd8
      have m8 := m7.on hA8
      refine wpIn_ret ?_
      show LeavesInM _ _ _ _ _ _ _ _ _
      have hd : a8.defers = [{ target := .collected W3.heap.size, args := #[] }] := by rw [hd8, hd7]; exact congrArg _ d3
      rw [hd]
      obtain ⟨v, hv, hD, -⟩ := results_sound Γ_ok hF8 m8.shut.rel (f := Tryd.f30) rfl rfl
      refine leaves_mark m8.dfr.at_ hv (.inl ⟨rg_done.1.1 ht, v, ρ8.ren fun i => [2].getD i 0, rfl, ?_, ?_⟩)
      · rw [← rg_done.2 (rg_done.1.1 ht)]
        exact (den_mapI ρ8 (fun i => [2].getD i 0) _ _).1 hD
      · rw [← rg_done.2 (rg_done.1.1 ht)]
        exact ren_rel [2] m8.shut rfl rfl (by repeat' (first | exact trivial | rfl | apply And.intro)) rfl
    · refine cond_in [true] hF7 rfl (by exact ⟨by rw [decide_eq_false ht]; rfl, trivial⟩) fun hF7 => ?_
      refine seq_in Γ_ok htb (wr := false) [] hF7 m7.after.rel rfl (by repeat' (first | exact trivial | rfl | apply And.intro)) rfl ?_
      intro a8 W8 ρ8 hA8 hF8 hd8
      have m8 := m7.on hA8
      refine wpIn_ret ?_
      show LeavesInM _ _ _ _ _ _ _ _ _
      have hd : a8.defers = [{ target := .collected W3.heap.size, args := #[] }] := by rw [hd8, hd7]; exact congrArg _ d3
      rw [hd]
      obtain ⟨v, hv, hD, -⟩ := results_sound Γ_ok hF8 m8.shut.rel (f := Tryd.f30) rfl rfl
      exact leaves_mark m8.dfr.at_ hv (.inr ⟨fun g => ht (rg_done.1.2 g), v, ρ8.ren fun i => [].getD i 0, rfl, (den_mapI ρ8 (fun i => [].getD i 0) (.t2 .nsl (.i .i64 5)) _).1 hD, ren_rel [] m8.shut rfl rfl (by repeat' (first | exact trivial | rfl | apply And.intro)) rfl⟩)
  · obtain ⟨W6, e6, m6⟩ := m5.quit (by simp [lpR])
    show ∃ jump w4, _ ∧ _
    refine ⟨some .ret, W6, e6, ?_⟩
    refine wpIn_ret ?_
    show LeavesInM _ _ _ _ _ _ _ _ _
    rw [d3]
    obtain ⟨v, hv, hD, -⟩ := results_sound Γ_ok (a := { tmps := a3.tmps, defers := [] }) m6.frame m6.shut.rel (f := Tryd.f30) rfl rfl
    exact leaves_mark m6.dfr.at_ hv (.inr ⟨hbad, v, ρ5.ren fun i => [].getD i 0, rfl, (den_mapI ρ5 (fun i => [].getD i 0) (.t2 .nsl (.i .i64 5)) _).1 hD, ren_rel [] m6.shut rfl rfl (by repeat' (first | exact trivial | rfl | apply And.intro)) rfl⟩)
/-- The program's ReadGoats: where the spec reads goats, and where it does not. -/
def rgOkS : Fun
  | [.s s], [] => some (.t2 (.ow 0 (gsV (splL s 10) (gsN s)).length .goat 74) (.i .i64 0), [.l .goat (gsV (splL s 10) (gsN s))], [gsP s ∧ s.size ≤ 1048576])
  | _, _ => .none
def rgErrS : Fun
  | [.s s], [] => some (.t2 .nsl (.i .i64 5), [], [¬ gsP s ∧ s.size ≤ 1048576])
  | _, _ => .none
theorem s_readGoatsOk : Sound Tryd.prog 30 rgOkS := by
  intro args M r M' vs h hvs
  unfold rgOkS at h
  split at h
  case h_2 => cases h
  rename_i s
  cases h
  obtain ⟨⟨h1, h2⟩, -⟩ := hvs
  intro ρ vals w hD hM hid
  match vals, hD with
  | [v], ⟨hv, _⟩ =>
  obtain ⟨rfl, hsz⟩ := hv
  refine (rg_calls h2 hM).mono ?_
  rintro e w' (⟨-, v, ρ', rfl, hd, hA⟩ | ⟨hno, -⟩)
  · exact ⟨v, ρ', rfl, hd, hA, fun i hi => by simp [AV.ids] at hi; subst hi; exact Nat.zero_lt_one⟩
  · exact absurd h1 hno
theorem s_readGoatsErr : Sound Tryd.prog 30 rgErrS := by
  intro args M r M' vs h hvs
  unfold rgErrS at h
  split at h
  case h_2 => cases h
  rename_i s
  cases h
  obtain ⟨⟨h1, h2⟩, -⟩ := hvs
  intro ρ vals w hD hM hid
  match vals, hD with
  | [v], ⟨hv, _⟩ =>
  obtain ⟨rfl, hsz⟩ := hv
  refine (rg_calls h2 hM).mono ?_
  rintro e w' (⟨hno, -⟩ | ⟨-, v, ρ', rfl, hd, hA⟩)
  · exact absurd hno h1
  · exact ⟨v, ρ', rfl, hd, hA, fun i hi => by simp [AV.ids] at hi⟩
end Go.Proofs.YtplnfdgokpgbcaaDoor
