/- The program's ReadGoats: one round of its range over the text's lines. -/
import Derived.Test.YtplnfdgokpgbcaaDoorLnI
namespace Go.Proofs.YtplnfdgokpgbcaaDoor
open Go Go.Eng Go.RowKit
set_option maxRecDepth 100000
set_option maxHeartbeats 4000000

/-- The two texts of a loop over a function: the assignment, the body. -/
def findRF : Code → Option (Code × Code)
  | .rangeFunc _ _ a b => some (a, b)
  | .seq x y => match findRF x with
    | some r => some r
    | none => findRF y
  | .block _ c => findRF c
  | _ => none
theorem Mem.on {ρ0 : Rho} {w0 : World} {M M' : List Blk} {fr : List AV} {tm : Array Value} {D : Nat} {r : Loop} {ρ ρ' : Rho} {W W' : World} (h : Mem ρ0 w0 M fr tm D r ρ W) (hA : After ρ M M' W W' ρ') : Mem ρ0 w0 M' fr tm D r ρ' W' :=
  ⟨h.after.trans hA, h.frame.ext hA.fmono hA.ext hA.len, h.loop.after h.after.rel hA, h.dfr.after h.after.rel hA, h.old⟩
theorem Mem.turn {ρ0 : Rho} {w0 : World} {M : List Blk} {fr : List AV} {tm : Array Value} {D : Nat} {r : Loop} {ρ : Rho} {W : World} (h : Mem ρ0 w0 M fr tm D r ρ W) (r' : Loop) : Mem ρ0 w0 M fr tm D r' ρ (W.putObj (D + 1) (.loop r')) :=
  ⟨h.after.put h.loop (by have := h.old; omega) _, h.frame, h.loop.put rfl, h.dfr.other (by omega), h.old⟩
theorem Mem.start {ρ0 : Rho} {w0 : World} {M : List Blk} {fr : List AV} {tm : Array Value} {ρ : Rho} {W : World} (hA : After ρ0 [] M w0 W ρ) (hF : FRel ρ M.length fr ⟨tm, []⟩) (r : Loop) :
    Mem ρ0 w0 M fr tm W.heap.size r ρ ((W.alloc (.deferred (some []))).alloc (.loop r)) := by
  refine ⟨(hA.lay _).lay _, hF, ?_, (Offside.new hA _ rfl).lay _, hA.size⟩
  have := Offside.new (hA.lay (.deferred (some []))) (.loop r) rfl
  rw [World.size_alloc] at this
  exact this
theorem Mem.quit {ρ0 : Rho} {w0 : World} {M : List Blk} {fr : List AV} {tm : Array Value} {D : Nat} {r : Loop} {ρ : Rho} {W : World} (h : Mem ρ0 w0 M fr tm D r ρ W) (hb : r.state ≠ .busy) :
    ∃ W', (Instr.endLoop (D + 1)).run Tryd.prog W = .ok r.pending W' ∧ Mem ρ0 w0 M fr tm D { r with state := .exhausted } ρ W' :=
  ⟨_, run_endLoop h.loop.at_ hb, h.turn _⟩
/-- At the function's return: the block for the rounds' deferred calls is shut. -/
theorem Mem.shut {ρ0 : Rho} {w0 : World} {M : List Blk} {fr : List AV} {tm : Array Value} {D : Nat} {r : Loop} {ρ : Rho} {W : World} (h : Mem ρ0 w0 M fr tm D r ρ W) : After ρ0 [] M w0 (W.putObj D (.deferred none)) ρ :=
  h.after.put h.dfr h.old _
theorem rg_round {s : ByteArray} {ρ0 : Rho} {w0 : World} {tm : Array Value} {D n : Nat} {fn : FuncId} {asg body : Code} (hs : s.size ≤ 1048576)
    (hc : (Tryd.f30.body.bind findRF) = some (asg, body)) (t line : ByteArray) (ls : List ByteArray) (ρ : Rho) (W : World) (h1 : line.size ≤ s.size) (hL : lnL s = ls ++ lnC line :: lnL t) (hall : ∀ w ∈ ls, rdO w = true)
    (hm : Mem ρ0 w0 (nf t (ls.map rdV)) (fr30 s) tm D (lpR fn tm asg body D .ready none) ρ W) :
    RoundIn (fenceR none) n Tryd.prog (D + 1) fn (tm.setIfInBounds 11 (.string line)) asg body W fun e W' =>
      (e = .returned (.bool true) ∧ rdO (lnC line) = true ∧ ∃ ρ', Mem ρ0 w0 (nf t ((ls ++ [lnC line]).map rdV)) (fr30 s) tm D (lpR fn tm asg body D .ready none) ρ' W' ∧ ρ.le ρ' ∧ ∀ i, i < 5 → i ≠ 2 → ρ' i = ρ i) ∨
      (e = .returned (.bool false) ∧ ¬ gsP s ∧ ∃ ρ', Mem ρ0 w0 nfE frE tm D (lpR fn tm asg body D .done (some .ret)) ρ' W') := by
  generalize hR : lpR fn tm asg body D .ready none = R at *
  generalize hB : lpR fn tm asg body D .busy none = B
  generalize hX : lpR fn tm asg body D .done (some .ret) = X
  have hRB : ({ R with state := .busy } : Loop) = B := by rw [← hR, ← hB]; rfl
  have hBR : ({ B with state := if (none : Option Code).isNone then .ready else .done, pending := none } : Loop) = R := by rw [← hR, ← hB]; rfl
  have hBX : ({ B with state := if (some Code.ret).isNone then .ready else .done, pending := some .ret } : Loop) = X := by rw [← hX, ← hB]; rfl
  have hRs : R.state = .ready := by rw [← hR]; rfl
  clear hR hB hX
  have hc2 : some (_, _) = some (asg, body) := hc
  cases hc2
  clear hc
  have htb := (TbOk.cons s_trimSuffix Tryd.func73 rfl rfl (TbOk.cons s_split Tryd.func67 rfl rfl (TbOk.cons s_readGoat Tryd.func72 rfl rfl (TbOk.nil : TbOk Tryd.prog tb0))))
  refine roundIn_of_wpIn (F := fenceR none) trivial ?_
  rw [fenceR_in]
  refine region_in Γ_ok htb (wr := false) [] (putO hm.frame (r := .s line) (v := .string line) ⟨rfl, by show _ ≤ 9223372036854775807; omega⟩ (fun i hi => by simp [AV.ids] at hi) (some 11)) hm.after.rel rfl (by repeat' (first | exact trivial | rfl | apply And.intro)) rfl ?_
  intro a1 W1 ρ1 hA1 hF1 hd1
  have m1 := (hm.on hA1).turn B
  have b1 := run_beginRound (P := Tryd.prog) (hm.on hA1).loop.at_ hRs
  rw [hRB] at b1
  refine ⟨_, b1, ?_⟩
  refine wpIn_block ?_
  refine seq_in Γ_ok htb (wr := false) [] hF1 m1.after.rel rfl ?_ rfl ?_
  · repeat' (first | exact trivial | apply And.intro)
    · rfl
    · omega
    · rfl
    · have := lnC_size line; omega
    · intro x hx
      have := splL_size _ _ x hx
      have := lnC_size line; omega
  intro a2 W2 ρ2 hA2 hF2 hd2
  have m2 := m1.on hA2
  have e32 : byA ⟨#[32]⟩ 0 = 32 := rfl
  rw [e32] at hF2 hA2 m2
  have eO : giO (splL (lnC line) 32) = rdO (lnC line) := rfl
  have eV : giW (splL (lnC line) 32) = rdV (lnC line) := rfl
  rw [eO] at hF2
  rw [eV] at hA2 m2 hF2
  have hlen : ls.length + 1 ≤ s.size + 1 := by
    have h1 := congrArg List.length hL
    rw [List.length_append, List.length_cons] at h1
    have h2 := dropE_len (splL s 10)
    have h3 := splL_len s 10
    unfold lnL at h1
    omega
  refine wpIn_seq_k fun K hK => ?_
  refine seq_in Γ_ok htb (wr := false) [] hF2 m2.after.rel rfl (by repeat' (first | exact trivial | rfl | apply And.intro)) rfl ?_
  intro a3 W3 ρ3 hA3 hF3 hd3
  have m3 := m2.on hA3
  cases ho : rdO (lnC line) with
  | false =>
    refine cond_in [true] hF3 rfl (by exact ⟨by rw [ho]; rfl, trivial⟩) fun hF3 => ?_
    refine seq_in Γ_ok htb (wr := false) [] hF3 m3.after.rel rfl (by repeat' (first | exact trivial | rfl | apply And.intro)) rfl ?_
    intro a4 W4 ρ4 hA4 hF4 hd4
    have m4 := m3.on hA4
    refine wpIn_ret ?_
    have e4 := run_endRound (P := Tryd.prog) (some .ret) m4.loop.at_
    rw [hBX] at e4
    show ∃ v w', _ ∧ _
    refine ⟨_, _, e4, .inr ⟨rfl, rg_stop hL ho, ρ4.ren fun i => [0, 1].getD i 0, ?_⟩⟩
    have m5 := m4.turn X
    refine ⟨ren_rel [0, 1] m5.after rfl rfl (by repeat' (first | exact trivial | rfl | apply And.intro)) rfl, ?_, ⟨m5.loop.at_, m5.loop.bare, m5.loop.fr⟩, ⟨m5.dfr.at_, m5.dfr.bare, m5.dfr.fr⟩, m5.old⟩
    refine (m5.frame.weak (fr' := frE) (by repeat' (first | exact trivial | rfl | apply And.intro))).keep (fun i => decide (i < 2)) (fun _ _ h => h) rfl fun i hi => ?_
    have hi := of_decide_eq_true hi
    refine ⟨?_, hi⟩
    match i, hi with
    | 0, _ => rfl
    | 1, _ => rfl
  | true =>
    refine cond_in [false] hF3 rfl (by exact ⟨by rw [ho]; rfl, trivial⟩) fun hF3 => ?_
    refine wpIn_skip ?_
    show K _ _
    refine hK _ _ ?_
    refine region_in Γ_ok htb (wr := false) [] hF3 m3.after.rel rfl ?_ rfl ?_
    · refine ⟨?_, trivial⟩
      show (ls.map rdV ++ [rdV (lnC line)]).length ≤ 1073741824
      rw [List.length_append, List.length_map, List.length_singleton]; omega
    intro a4 W4 ρ4 hA4 hF4 hd4
    have m4 := m3.on hA4
    have e4 := run_endRound (P := Tryd.prog) none m4.loop.at_
    rw [hBR] at e4
    show ∃ v w', _ ∧ _
    refine ⟨_, _, e4, .inl ⟨rfl, ho, ρ4.ren fun i => [0, 1, 8, 3, 4].getD i 0, ?_, ?_, ?_⟩⟩
    · have m5 := m4.turn R
      rw [List.map_append]
      refine ⟨ren_rel [0, 1, 8, 3, 4] m5.after rfl rfl (by repeat' (first | exact trivial | rfl | apply And.intro)) rfl, ?_, ⟨m5.loop.at_, m5.loop.bare, m5.loop.fr⟩, ⟨m5.dfr.at_, m5.dfr.bare, m5.dfr.fr⟩, m5.old⟩
      refine m5.frame.keep (fun i => decide (i < 5 ∧ i ≠ 2)) (fun _ _ h => h) rfl fun i hi => ?_
      have hi := of_decide_eq_true hi
      refine ⟨?_, hi.1⟩
      match i, hi with
      | 0, _ => rfl
      | 1, _ => rfl
      | 3, _ => rfl
      | 4, _ => rfl
    · exact Rho.le_trans hA1.fmono (Rho.le_trans hA2.fmono (Rho.le_trans hA3.fmono hA4.fmono))
    · intro i h5 h2
      have key : ρ4 i = ρ i := by
        rw [hA4.ext i (by show i < 7; omega), hA3.ext i (by show i < 7; omega), hA2.ext i h5, hA1.ext i h5]
      rw [← key]
      match i, h5, h2 with
      | 0, _, _ => rfl
      | 1, _, _ => rfl
      | 3, _, _ => rfl
      | 4, _, _ => rfl
end Go.Proofs.YtplnfdgokpgbcaaDoor
