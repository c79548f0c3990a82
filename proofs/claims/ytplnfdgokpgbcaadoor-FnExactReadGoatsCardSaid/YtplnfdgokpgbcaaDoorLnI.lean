/- A range over a text's lines: the library's iterator walked, its rounds as they are told. -/
import Derived.Test.YtplnfdgokpgbcaaDoorLnW
namespace Go.Proofs.YtplnfdgokpgbcaaDoor
open Go Go.Eng Go.RowKit
set_option maxRecDepth 100000
set_option maxHeartbeats 4000000

/-- The blocks while the range is under way, and where a round has left it. -/
def nf (t : ByteArray) (rows : List (List Int)) : List Blk := [.r [.any], .c .i64 [0], .l .goat rows, .r [.ow 2 rows.length .goat 74], .s [t]]
def nfE : List Blk := [.r [.nsl], .c .i64 [5]]
def fr30 (s : ByteArray) : List AV := (.s s :: .any :: .pw 0 .ref :: .pw 1 .i64 :: .pw 3 .ref :: .any :: .any :: .any :: .any :: .any :: .any :: .any :: .any :: .any :: .any :: .any :: .any :: .any :: .any :: .any :: .any :: .any :: .any :: .any :: .any :: .any :: .any :: .any :: .any :: .any :: [])
def frE : List AV := (.any :: .any :: .pw 0 .ref :: .pw 1 .i64 :: .any :: .any :: .any :: .any :: .any :: .any :: .any :: .any :: .any :: .any :: .any :: .any :: .any :: .any :: .any :: .any :: .any :: .any :: .any :: .any :: .any :: .any :: .any :: .any :: .any :: .any :: [])
/-- The loop's record. -/
def lpR (fn : FuncId) (tm : Array Value) (asg body : Code) (D : Nat) (st : LoopState) (pe : Option Code) : Loop := { state := st, pending := pe, fn, tmps := tm, params := #[11], assign := asg, body, defers := D }
structure Mem (ρ0 : Rho) (w0 : World) (M : List Blk) (fr : List AV) (tm : Array Value) (D : Nat) (r : Loop) (ρ : Rho) (W : World) : Prop where
  after : After ρ0 [] M w0 W ρ
  frame : FRel ρ M.length fr ⟨tm, []⟩
  loop : Offside ρ (D + 1) (.loop r) W
  dfr : Offside ρ D (.deferred (some [])) W
  old : w0.heap.size ≤ D
def fr98 (l : Nat) : List AV := (.v (.func (.yield l) #[] #[]) :: .pw 4 .str :: .any :: .any :: .any :: .any :: .any :: .any :: .any :: .any :: .any :: .any :: .any :: .any :: .any :: .any :: .any :: .any :: .any :: .any :: .any :: .any :: .any :: .any :: .any :: [])
def fr98b (l : Nat) (x : ByteArray) : List AV := (.v (.func (.yield l) #[] #[]) :: .pw 4 .str :: .any :: .s x :: .any :: .any :: .any :: .any :: .any :: .any :: .any :: .any :: .any :: .any :: .any :: .any :: .any :: .any :: .any :: .any :: .any :: .any :: .any :: .any :: .any :: [])

theorem frel_none {ρ : Rho} {n k : Nat} {a : Act} (h : a.tmps.size = k) : FRel ρ n (List.replicate k .any) a := by
  have e : ∀ t, (List.replicate k AV.any).getD t .any = .any := fun t => by
    rw [List.getD_eq_getElem?_getD, List.getElem?_replicate]; split <;> rfl
  refine ⟨by rw [List.length_replicate]; exact h, fun t => by rw [e]; trivial, fun t i hi => by rw [e] at hi; simp [AV.ids] at hi⟩
theorem lines_iter {s : ByteArray} {ρ0 : Rho} {w0 : World} {tm : Array Value} {D n : Nat} {fn : FuncId} {asg body : Code} (hs : s.size ≤ 1048576)
    (hround : ∀ (t line : ByteArray) (ls : List ByteArray) (ρ : Rho) (W : World), line.size ≤ s.size → lnL s = ls ++ lnC line :: lnL t → (∀ w ∈ ls, rdO w = true) →
      Mem ρ0 w0 (nf t (ls.map rdV)) (fr30 s) tm D (lpR fn tm asg body D .ready none) ρ W →
      RoundIn (fenceR none) (n - 1) Tryd.prog (D + 1) fn (tm.setIfInBounds 11 (.string line)) asg body W fun e W' =>
        (e = .returned (.bool true) ∧ rdO (lnC line) = true ∧ ∃ ρ', Mem ρ0 w0 (nf t ((ls ++ [lnC line]).map rdV)) (fr30 s) tm D (lpR fn tm asg body D .ready none) ρ' W' ∧ ρ.le ρ' ∧ ∀ i, i < 5 → i ≠ 2 → ρ' i = ρ i) ∨
        (e = .returned (.bool false) ∧ ¬ gsP s ∧ ∃ ρ', Mem ρ0 w0 nfE frE tm D (lpR fn tm asg body D .done (some .ret)) ρ' W'))
    {ρ : Rho} {W : World} (hm : Mem ρ0 w0 (nf s []) (fr30 s) tm D (lpR fn tm asg body D .ready none) ρ W) :
    CallsIn (fenceR none) n Tryd.prog 98 #[.func (.yield (D + 1)) #[] #[], .pointer (some ⟨(ρ 4).blk, 0, none⟩)] W fun e W' => (∃ v, e = .returned v) ∧
      ((∃ ρ', Mem ρ0 w0 (nf ⟨#[]⟩ ((lnL s).map rdV)) (fr30 s) tm D (lpR fn tm asg body D .ready none) ρ' W' ∧ ∀ w ∈ lnL s, rdO w = true) ∨
       (¬ gsP s ∧ ∃ ρ', Mem ρ0 w0 nfE frE tm D (lpR fn tm asg body D .done (some .ret)) ρ' W')) := by
  have htb := (TbOk.cons s_indexByte Tryd.func99 rfl rfl (TbOk.nil : TbOk Tryd.prog tb0))
  refine callsIn_of_wp Tryd.func98 rfl trivial ?_
  have hp : (ρ 4).size = 1 ∧ (ρ 4).σ = .str := by
    obtain ⟨C, h1, h2, h3, h4, h5, h6⟩ := hm.after.rel.blk 4 _ rfl
    exact ⟨h4.symm, h3⟩
  have hF0 : FRel ρ 5 (fr98 (D + 1)) { tmps := #[.func (.yield (D + 1)) #[] #[], .pointer (some ⟨(ρ 4).blk, 0, none⟩)] ++ Array.replicate (25 - 2) undef, defers := [] } := by
    have := frel_enter (N := 25) (ρ := ρ) (k := 5) (args := [.v (.func (.yield (D + 1)) #[] #[]), .pw 4 .str]) (vals := [.func (.yield (D + 1)) #[] #[], .pointer (some ⟨(ρ 4).blk, 0, none⟩)])
      ⟨rfl, ⟨rfl, ptr_self hp.1 hp.2, hp.1⟩, trivial⟩ (fun x hx i hi => by
        simp only [List.mem_cons, List.not_mem_nil, or_false] at hx
        rcases hx with rfl | rfl
        · cases hi
        · simp [AV.ids] at hi; omega)
    exact this
  refine wpIn_block ?_
  refine loop_in (fun k a W => ∃ ρ t ls, k = t.size ∧ t.size ≤ s.size ∧ lnL s = ls ++ lnL t ∧ (∀ w ∈ ls, rdO w = true) ∧ Mem ρ0 w0 (nf t (ls.map rdV)) (fr30 s) tm D (lpR fn tm asg body D .ready none) ρ W ∧ FRel ρ 5 (fr98 (D + 1)) a ∧ a.defers = []) (i := s.size) ⟨ρ, s, [], rfl, Nat.le_refl _, rfl, fun w h => (by cases h), hm, hF0, rfl⟩ ?_
  clear hm hF0 hp ρ W
  rintro k a W ⟨ρ, t, ls, rfl, hts, hL, hall, hm, hF, hd⟩
  have hix := ixL_bounds t
  refine wpIn_seq_k fun K1 hK1 => ?_
  refine seq_in Γ_ok htb (wr := false) [] hF hm.after.rel rfl (by repeat' (first | exact trivial | rfl | apply And.intro)) rfl ?_
  intro a1 W1 ρ1 hA1 hF1 hd1
  by_cases h0 : 0 < t.size
  · refine cond_in [true] hF1 rfl (by exact ⟨decide_eq_true (by omega), trivial⟩) fun hF1 => ?_
    refine wpIn_skip ?_
    show K1 _ _
    refine hK1 _ _ ?_
    obtain ⟨hL1, hR1, hN1⟩ := ln_step h0
    refine wpIn_block ?_
    refine seq_in Γ_ok htb (wr := false) [] (hF1.weak (fr' := fr98 (D + 1)) (by repeat' (first | exact trivial | rfl | apply And.intro))) hA1.rel rfl (by repeat' (first | exact trivial | rfl | apply And.intro)) rfl ?_
    intro a2 W2 ρ2 hA2 hF2 hd2
    refine wpIn_seq_k fun K2 hK2 => ?_
    have tail : ∀ a5 W5 ρ5, After ρ (nf t (ls.map rdV)) (nf (lnR t) (ls.map rdV)) W W5 ρ5 → FRel ρ5 5 (fr98b (D + 1) (lnN t)) a5 → a5.defers = [] → K2 a5 W5 := by
      intro a5 W5 ρ5 hA5 f5 hd5
      refine hK2 _ _ ?_
      have m5 : Mem ρ0 w0 (nf (lnR t) (ls.map rdV)) (fr30 s) tm D (lpR fn tm asg body D .ready none) ρ5 W5 :=
        ⟨hm.after.trans hA5, hm.frame.ext hA5.fmono hA5.ext hA5.len, hm.loop.after hm.after.rel hA5, hm.dfr.after hm.after.rel hA5, hm.old⟩
      refine wpIn_seq (wpIn_region_list (evOps_in Γ_ok htb (wr := false) (π := []) 2 f5 hA5.rel rfl (by repeat' (first | exact trivial | rfl | apply And.intro)) rfl ?_))
      intro a6 W6 ρ6 hA6 hF6 hd6
      have m6 : Mem ρ0 w0 (nf (lnR t) (ls.map rdV)) (fr30 s) tm D (lpR fn tm asg body D .ready none) ρ6 W6 :=
        ⟨m5.after.trans hA6, m5.frame.ext hA6.fmono hA6.ext hA6.len, m5.loop.after m5.after.rel hA6, m5.dfr.after m5.after.rel hA6, m5.old⟩
      have hx : a6.tmps.getD 21 undef = .func (.yield (D + 1)) #[] #[] := hF6.at 21 rfl
      have hv : a6.tmps.getD 22 undef = .string (lnN t) := (hF6.at 22 (x := .s (lnN t)) rfl).1
      have hy : (Instr.yield (D + 1) #[.string (lnN t)]).run Tryd.prog W6 = .ok (.round (D + 1) fn (tm.setIfInBounds 11 (.string (lnN t))) asg body) W6 := by
        rw [run_yield m6.loop.at_ rfl]; simp [lpR]
      refine wp_yield (l := D + 1) (vals := #[.string (lnN t)]) rfl rfl rfl hx (by apply Array.toList_inj.1; rw [Array.toList_map, ← hv]; rfl) hy ?_
      refine (hround (lnR t) (lnN t) ls ρ6 W6 (by omega) (by rw [hL, hL1]) hall m6).mono ?_
      rintro e W7 (⟨rfl, hok, ρ7, m7, hle, hkp⟩ | ⟨rfl, hbad, ρ7, m7⟩)
      · refine ⟨_, rfl, ?_⟩
        have f7 : FRel ρ7 5 (fr98 (D + 1)) a6 := (hF6.weak (fr' := fr98 (D + 1)) (by repeat' (first | exact trivial | rfl | apply And.intro))).keep (fun i => decide (i < 5 ∧ i ≠ 2)) hle rfl fun i hi => by
          have := of_decide_eq_true hi
          exact ⟨hkp i this.1 this.2, this.1⟩
        refine evOps_in Γ_ok htb (wr := false) (π := []) 1 (putO f7 (r := .d true) (v := .bool true) rfl (fun i hi => by simp [AV.ids] at hi) (some 23)) m7.after.rel rfl (by repeat' (first | exact trivial | rfl | apply And.intro)) rfl ?_
        intro a8 W8 ρ8 hA8 hF8 hd8
        refine cond_in [] hF8 rfl (by repeat' (first | exact trivial | rfl | apply And.intro)) fun hF8 => ?_
        refine wpIn_skip ?_
        refine ⟨(lnR t).size, by omega, ρ8, lnR t, ls ++ [lnC (lnN t)], rfl, by omega, ?_, ?_, ?_, hF8.weak (by repeat' (first | exact trivial | rfl | apply And.intro)), ?_⟩
        · rw [hL, hL1, List.append_assoc]; rfl
        · intro w hw
          rcases List.mem_append.1 hw with hw | hw
          · exact hall w hw
          · rw [List.mem_singleton.1 hw]; exact hok
        · exact ⟨m7.after.trans hA8, m7.frame.ext hA8.fmono hA8.ext hA8.len, m7.loop.after m7.after.rel hA8, m7.dfr.after m7.after.rel hA8, m7.old⟩
        · rw [hd8, put_defers, hd6]; exact hd5
      · refine ⟨_, rfl, ?_⟩
        have f7 : FRel ρ7 2 (List.replicate 25 .any) a6 := frel_none hF6.size
        refine evOps_in Γ_ok htb (wr := false) (π := []) 1 (putO f7 (r := .d false) (v := .bool false) rfl (fun i hi => by simp [AV.ids] at hi) (some 23)) m7.after.rel rfl (by repeat' (first | exact trivial | rfl | apply And.intro)) rfl ?_
        intro a8 W8 ρ8 hA8 hF8 hd8
        refine cond_in [] hF8 rfl (by repeat' (first | exact trivial | rfl | apply And.intro)) fun hF8 => ?_
        refine wpIn_ret ?_
        show _ ∧ _
        obtain ⟨v, hv, -⟩ := results_sound Γ_ok hF8 hA8.rel (f := Tryd.f98) (rs := []) rfl rfl
        refine ⟨by rw [hd8, put_defers, hd6]; exact hd5, v, hv, ⟨_, rfl⟩, .inr ⟨hbad, ρ8, ?_⟩⟩
        exact ⟨m7.after.trans hA8, m7.frame.ext hA8.fmono hA8.ext hA8.len, m7.loop.after m7.after.rel hA8, m7.dfr.after m7.after.rel hA8, m7.old⟩
    refine seq_in Γ_ok htb (wr := false) [] (hF2.weak (fr' := fr98 (D + 1)) (by repeat' (first | exact trivial | rfl | apply And.intro))) hA2.rel rfl (by exact ⟨⟨rfl, by omega⟩, trivial⟩) rfl ?_
    intro a3 W3 ρ3 hA3 hF3 hd3
    refine seq_in Γ_ok htb (wr := false) [] hF3 hA3.rel rfl (by repeat' (first | exact trivial | rfl | apply And.intro)) rfl ?_
    intro a4 W4 ρ4 hA4 hF4 hd4
    by_cases hi : 0 ≤ ixL t
    · have eN : lnN t = t.extract 0 (ixL t + 1).toNat := if_pos hi
      have eR : lnR t = t.extract (ixL t + 1).toNat t.size := if_pos hi
      refine cond_in [true] hF4 rfl (by exact ⟨decide_eq_true hi, trivial⟩) fun hF4 => ?_
      refine region_open Γ_ok htb (wr := false) [] hF4 hA4.rel rfl ?_ ?_
      · repeat' (first | exact trivial | apply And.intro)
        all_goals (first | omega | (show (-9223372036854775808 : Int) ≤ _; omega) | (show _ ≤ (9223372036854775807 : Int); omega))
      intro a5 W5 ρ5 hA5 hF5 hd5
      show K2 _ _
      refine tail a5 W5 ρ5 ?_ ?_ (by rw [hd5, hd4, hd3, hd2, hd1]; exact hd)
      · rw [eR]
        exact hA1.trans (hA2.trans (hA3.trans (hA4.trans hA5)))
      · rw [eN]
        exact hF5.weak (by repeat' (first | exact trivial | rfl | apply And.intro))
    · have eN : lnN t = t := if_neg hi
      have eR : lnR t = ⟨#[]⟩ := if_neg hi
      refine cond_in [false] hF4 rfl (by exact ⟨decide_eq_false hi, trivial⟩) fun hF4 => ?_
      refine region_in Γ_ok htb (wr := false) [] hF4 hA4.rel rfl (by repeat' (first | exact trivial | rfl | apply And.intro)) rfl ?_
      intro a5 W5 ρ5 hA5 hF5 hd5
      show K2 _ _
      refine tail a5 W5 ρ5 ?_ ?_ (by rw [hd5, hd4, hd3, hd2, hd1]; exact hd)
      · rw [eR]
        exact hA1.trans (hA2.trans (hA3.trans (hA4.trans hA5)))
      · rw [eN]
        exact hF5.weak (by repeat' (first | exact trivial | rfl | apply And.intro))
  · refine cond_in [false] hF1 rfl (by exact ⟨decide_eq_false (by omega), trivial⟩) fun hF1 => ?_
    refine wpIn_exit ?_
    obtain ⟨e0, e1⟩ := ln_nil (t := t) (by omega)
    rw [e1, List.append_nil] at hL
    subst e0
    show _ ∧ _
    obtain ⟨v, hv, -⟩ := results_sound Γ_ok hF1 hA1.rel (f := Tryd.f98) (rs := []) rfl rfl
    refine ⟨hd1.trans hd, v, hv, ⟨_, rfl⟩, .inl ⟨ρ1, ?_, ?_⟩⟩
    · rw [hL]
      exact ⟨hm.after.trans hA1, hm.frame.ext hA1.fmono hA1.ext hA1.len, hm.loop.after hm.after.rel hA1, hm.dfr.after hm.after.rel hA1, hm.old⟩
    · rw [hL]; exact hall
end Go.Proofs.YtplnfdgokpgbcaaDoor
