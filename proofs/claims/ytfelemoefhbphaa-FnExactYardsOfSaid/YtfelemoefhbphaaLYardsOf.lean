/- The row YardsOf: the spec and the program list the same yards; each yard is the program's own. -/
import Derived.Test.YtfelemoefhbphaaYdT
import Derived.Test.YtfelemoefhbphaaEngG
namespace Go.Proofs.Ytfelemoefhbphaa
open Go Go.Eng Go.RowKit
set_option maxRecDepth 100000
set_option maxHeartbeats 4000000

def rL (l : Go.Eng.Loc) (F : Nat → Option Obj) : Rho := ⟨fun _ => l, F, trivial⟩
/-- The pasture's block. -/
def PB (l : Go.Eng.Loc) (x : List Int) (w : World) : Prop := BRel (rL l fun _ => none) l w.heap[l.blk]? (.c .pas x)
theorem rL_rel {l : Go.Eng.Loc} {F : Nat → Option Obj} {x : List Int} {w : World} (hb : PB l x w) (hF : ∀ k o, F k = some o → w.heap[k]? = some o ∧ l.blk ≠ k) : MRel (rL l F) [.c .pas x] w := by
  refine ⟨fun id bk h => ?_, fun i j hi hj _ => ?_, fun id vs h => ?_, fun k o h => ⟨(hF k o h).1, fun i _ => (hF k o h).2⟩⟩
  · match id, h with
    | 0, h => cases h; exact hb
    | id + 1, h => simp at h
  · have h1 := hi.lt
    have h2 := hj.lt
    simp only [List.length_cons, List.length_nil] at h1 h2
    omega
  · match id, h with
    | 0, h => cases h
    | id + 1, h => simp at h
/-- What is kept on the way. -/
structure Kp (B : Nat) (l : Go.Eng.Loc) (x : List Int) (w w' : World) : Prop where
  os : w'.os = w.os
  tape : w'.tape = w.tape
  output : w'.output = w.output
  size : w.heap.size ≤ w'.heap.size
  old : ∀ k, k < B → k ≠ l.blk → w'.heap[k]? = w.heap[k]?
  pb : PB l x w'
theorem Kp.trans {B : Nat} {l : Go.Eng.Loc} {x : List Int} {w w1 w2 : World} (h : Kp B l x w w1) (k : Kp B l x w1 w2) : Kp B l x w w2 :=
  ⟨k.os.trans h.os, k.tape.trans h.tape, k.output.trans h.output, Nat.le_trans h.size k.size, fun i h1 h2 => (k.old i h1 h2).trans (h.old i h1 h2), k.pb⟩
theorem Kp.mono {B B' : Nat} {l : Go.Eng.Loc} {x : List Int} {w w1 : World} (h : Kp B l x w w1) (hB : B' ≤ B) : Kp B' l x w w1 :=
  ⟨h.os, h.tape, h.output, h.size, fun i h1 h2 => h.old i (Nat.lt_of_lt_of_le h1 hB) h2, h.pb⟩
theorem kp_eng {l : Go.Eng.Loc} {F : Nat → Option Obj} {x : List Int} {w w' : World} {ρ' : Rho} (h : After (rL l F) [.c .pas x] [.c .pas x] w w' ρ') : Kp w.heap.size l x w w' := by
  have he : ρ' 0 = l := h.ext 0 Nat.zero_lt_one
  have hb := h.rel.blk 0 _ rfl
  rw [he] at hb
  refine ⟨h.os, h.tape, h.output, h.size, fun k h1 h2 => h.frame k h1 fun id hid => ?_, hb⟩
  show l.blk ≠ k
  exact fun e => h2 e.symm
theorem kp_call {B : Nat} {l : Go.Eng.Loc} {x : List Int} {w w' : World} (h : Below B w w') (hl : l.blk < B) (hb : PB l x w) : Kp B l x w w' :=
  ⟨h.os, h.tape, h.output, h.size, fun k h1 _ => h.block k h1, by unfold PB; rw [h.block _ hl]; exact hb⟩
theorem hpN_kp {n : Nat} {l : Go.Eng.Loc} {x : List Int} {w w' : World} (h : Kp w.heap.size l x w w') (hl : l.blk < n) : ∀ k o, hpN n w k = some o → hpN n w' k = some o := fun k o hk => by
  unfold hpN at *
  split at hk
  · rename_i hn
    rw [if_pos hn, h.old k (Array.getElem?_eq_some_iff.1 hk).1 (by omega)]; exact hk
  · cases hk
theorem wp_callL {all : Array Oper} {Q : Exit → Act → World → Prop} {o : Oper} {rest : List Oper} {c : Call} {n : Nat} {vals : List Value} {a : Act} {w : World} (hg : o.guard = .none) (ho : o.op = .call c) (hc : c.callee = .value (.func n)) (hv : c.args.toList.map a.eval = vals)
    {F : Func} (hf : Try.prog.funcs[n]? = some F) (hb : F.body.isNone = false) (hn : (F.name == "runtime.NumGoroutine") = false)
    (h : Calls Try.prog n vals.toArray w fun e w' => ∃ v, e = .returned v ∧ wpList Try.prog all Q rest (a.put o.dst v) w') : wpList Try.prog all Q (o :: rest) a w :=
  wp_call1 hg ho hc (Array.toList_inj.1 (by rw [Array.toList_map, hv])) hf hb hn h
theorem mkLL_row {n : Nat} : ∀ (L : List (List (List Int))) (k : Int), (∀ Y ∈ L, Y.length ≤ n) → ∀ Y ∈ mkLL k L, Y.length ≤ n
  | [], _, _, Y, h => by cases h
  | Z :: l, k, hL, Y, h => by
    rcases List.mem_cons.1 h with rfl | h
    · rw [mkL_len]; exact hL Z List.mem_cons_self
    · exact mkLL_row l _ (fun X hX => hL X (List.mem_cons_of_mem _ hX)) Y h
theorem At_seq {fn m : Nat} {R : AV → List Blk → Prop} {ρ0 : Rho} {M0 : List Blk} {w0 : World} {b : Frame} {cs : List Frame} {c d : Code} {k : List Item} {a : Act} {w : World}
    (g : At Try.prog fn m ρ0 M0 w0 R b cs (.code c :: .code d :: k) a w) : At Try.prog fn m ρ0 M0 w0 R b cs (.code (.seq c d) :: k) a w := At.step step_seq g
theorem At_skip {fn m : Nat} {R : AV → List Blk → Prop} {ρ0 : Rho} {M0 : List Blk} {w0 : World} {b : Frame} {cs : List Frame} {k : List Item} {a : Act} {w : World}
    (g : At Try.prog fn m ρ0 M0 w0 R b cs k a w) : At Try.prog fn m ρ0 M0 w0 R b cs (.code .skip :: k) a w := At.step step_skip g
theorem At_condF {fn m : Nat} {R : AV → List Blk → Prop} {ρ0 : Rho} {M0 : List Blk} {w0 : World} {b : Frame} {cs : List Frame} {x : Operand} {c d : Code} {k : List Item} {a : Act} {w : World} (he : a.eval x = .bool false)
    (g : At Try.prog fn m ρ0 M0 w0 R b cs (.code d :: k) a w) : At Try.prog fn m ρ0 M0 w0 R b cs (.code (.cond x c d) :: k) a w := At.step (step_cond (t := false) he) g
theorem frel_any {ρ : Rho} {n k : Nat} {a : Act} (h : a.tmps.size = k) : FRel ρ n (List.replicate k .any) a := by
  have e : ∀ t, (List.replicate k AV.any).getD t .any = .any := fun t => by
    rw [List.getD_eq_getElem?_getD, List.getElem?_replicate]; split <;> rfl
  refine ⟨by rw [List.length_replicate]; exact h, fun t => by rw [e]; trivial, fun t i hi => by rw [e] at hi; simp [AV.ids] at hi⟩
theorem frel_set {ρ : Rho} {n : Nat} {fr : List AV} {a : Act} (h : FRel ρ n fr a) (t : Nat) {x : AV} (hd : Den ρ x (a.tmps.getD t undef)) (hi : ∀ i ∈ x.ids, i < n) : FRel ρ n (fr.set t x) a := by
  have e : ∀ s, (fr.set t x).getD s .any = if t = s ∧ s < fr.length then x else fr.getD s .any := fun s => by
    rw [List.getD_eq_getElem?_getD, List.getD_eq_getElem?_getD, List.getElem?_set]
    by_cases hs : t = s
    · subst hs
      by_cases hl : t < fr.length
      · rw [if_pos rfl, if_pos hl, if_pos ⟨rfl, hl⟩]; rfl
      · rw [if_pos rfl, if_neg hl, if_neg (fun g => hl g.2), List.getElem?_eq_none (by omega)]
    · rw [if_neg hs, if_neg (fun g => hs g.1)]
  refine ⟨by rw [List.length_set]; exact h.size, fun s => ?_, fun s i his => ?_⟩
  · rw [e]
    split
    · rename_i g; rw [← g.1]; exact hd
    · exact h.den s
  · rw [e] at his
    split at his
    · exact hi i his
    · exact h.ids s i his
theorem den_pw {ρ : Rho} {l : Go.Eng.Loc} {F : Nat → Option Obj} {v : Value} (h : ρ 0 = l) (hd : Den ρ (.pw 0 .pas) v) : Den (rL l F) (.pw 0 .pas) v := by
  simp only [Den] at *
  rw [h] at hd
  exact hd
/-- The frame: the pasture, the spec's list, its code. -/
def frA (u0 : Value) (c : Int) : List AV := (((List.replicate 66 .any).set 1 (.pw 0 .pas)).set 3 (.v u0)).set 4 (.i .i64 c)
def frB (u0 u : Value) (c : Int) : List AV := ((frA u0 c).set 5 (.v u)).set 6 (.i .i64 c)
def frC (L : List (List (List Int))) (c : Int) : List AV := ((((((List.replicate 66 .any).set 1 (.pw 0 .pas)).set 3 (.fz .spot L)).set 4 (.i .i64 c)).set 5 (.fz .spot (mkLL 1 L))).set 6 (.i .i64 c)).set 7 (.i .i64 (endK 1 L))
theorem den_v {ρ : Rho} {u x : Value} : Den ρ (.v u) x ↔ x = u := by simp only [Den]
theorem den_i {ρ : Rho} {c : Int} {x : Value} : Den ρ (.i .i64 c) x ↔ x = .int .i64 c ∧ rng .i64 c := by simp only [Den]
theorem den_d {ρ : Rho} : Den ρ (.d true) (.bool true) := by simp only [Den]
theorem den_b {ρ : Rho} {q : Bool} {x : Value} : Den ρ (.b q) x ↔ x = .bool q := by simp only [Den]
theorem den_fz {ρ : Rho} {L : List (List (List Int))} {x : Value} : Den ρ (.fz .spot L) x ↔ FSS ρ.F .spot L x := by simp only [Den]
theorem den_ag {ρ ρ' : Rho} {x : List Int} {v : Value} (h : Den ρ (.ag .pas x) v) : Den ρ' (.ag .pas x) v := by simp only [Den] at *; exact h
theorem den_tv {ρ : Rho} {u : Value} {c : Int} (h : rng .i64 c) : Den ρ (.t2 (.v u) (.i .i64 c)) (.tuple #[u, .int .i64 c]) := by
  simp only [Den]
  exact ⟨u, _, rfl, rfl, rfl, h⟩
theorem den_at {ρ : Rho} {n : Nat} {fr : List AV} {a : Act} (hF : FRel ρ n fr a) (t : Nat) {x : AV} (e : fr.getD t .any = x) : Den ρ x (a.tmps.getD t undef) := e ▸ hF.den t
theorem i0 {x : AV} (h : x.ids = []) : ∀ i ∈ x.ids, i < 1 := fun i hi => by rw [h] at hi; cases hi
theorem frA_first {ρ : Rho} {l : Go.Eng.Loc} {F : Nat → Option Obj} {a : Act} {u0 : Value} {c : Int} (hs : a.tmps.size = 66) (h1 : Den (rL l F) (.pw 0 .pas) (a.tmps.getD 1 undef)) (h3 : a.tmps.getD 3 undef = u0) (h4 : Den ρ (.i .i64 c) (a.tmps.getD 4 undef)) : FRel (rL l F) 1 (frA u0 c) a := by
  refine frel_set (frel_set (frel_set (frel_any hs) 1 h1 (fun i hi => ?_)) 3 (den_v.2 h3) (i0 rfl)) 4 (den_i.2 (den_i.1 h4)) (i0 rfl)
  simp [AV.ids] at hi; omega
theorem frA_of {ρ' : Rho} {fr : List AV} {l : Go.Eng.Loc} {F : Nat → Option Obj} {a : Act} {u0 : Value} {c : Int} {n : Nat} (hF : FRel ρ' n fr a) (hs : fr.length = 66) (h0 : ρ' 0 = l) (e1 : fr.getD 1 .any = .pw 0 .pas) (e3 : fr.getD 3 .any = .v u0) (e4 : fr.getD 4 .any = .i .i64 c) :
    FRel (rL l F) 1 (frA u0 c) a := by
  refine frel_set (frel_set (frel_set (frel_any (hF.size.trans hs)) 1 (den_pw h0 (den_at hF 1 e1)) (fun i hi => ?_)) 3 (den_v.2 (den_v.1 (den_at hF 3 e3))) (i0 rfl)) 4 (den_i.2 (den_i.1 (den_at hF 4 e4))) (i0 rfl)
  simp [AV.ids] at hi; omega
theorem frB_of {ρ' : Rho} {fr : List AV} {l : Go.Eng.Loc} {F : Nat → Option Obj} {a : Act} {u0 u : Value} {c : Int} {n : Nat} (hF : FRel ρ' n fr a) (hs : fr.length = 66) (h0 : ρ' 0 = l) (e1 : fr.getD 1 .any = .pw 0 .pas) (e3 : fr.getD 3 .any = .v u0) (e4 : fr.getD 4 .any = .i .i64 c)
    (e5 : fr.getD 5 .any = .v u) (e6 : fr.getD 6 .any = .i .i64 c) : FRel (rL l F) 1 (frB u0 u c) a :=
  frel_set (frel_set (frA_of hF hs h0 e1 e3 e4) 5 (den_v.2 (den_v.1 (den_at hF 5 e5))) (i0 rfl)) 6 (den_i.2 (den_i.1 (den_at hF 6 e6))) (i0 rfl)

set_option maxRecDepth 100000 in
theorem l_ExactYardsOf (x0 : List Int) : SpecOK Try.prog 4 [.ag .pas x0] [] (.d true) [] := by
  have htb := (TbOk.cons s_toPasture Try.func16 rfl rfl (TbOk.cons s_specYardsOf Try.func22 rfl rfl (TbOk.cons s_ydAny Try.func23 rfl rfl (TbOk.cons s_eqSS Try.func24 rfl rfl (TbOk.cons s_heldSS Try.func26 rfl rfl (TbOk.nil : TbOk Try.prog tb0))))))
  have hL := ydL_ok x0
  refine SpecOK.of_goes [] Try.func4 rfl ?_
  refine Goes.run Γ_ok htb 4 false [] rfl (by repeat' (first | exact trivial | rfl | apply And.intro)) ?_
  refine Goes.of_at fun ρ a w b cs hm hb hk hF hd hM => ?_
  have d1 : Den ρ (.pw 0 .pas) (a.tmps.getD 1 undef) := hF.den 1
  have d3 : Den ρ (.fz .spot (ydL x0)) (a.tmps.getD 3 undef) := hF.den 3
  have d4 : Den ρ (.i .i64 (ydC x0)) (a.tmps.getD 4 undef) := hF.den 4
  have hsz : a.tmps.size = 66 := hF.size
  have pb : PB (ρ 0) x0 w := hM.blk 0 _ rfl
  have hlt : (ρ 0).blk < w.heap.size := hM.blk_lt ⟨_, rfl, rfl⟩
  have henv : ∀ k o, ρ.F k = some o → w.heap[k]? = some o ∧ (ρ 0).blk ≠ k := fun k o h => ⟨(hM.env k o h).1, (hM.env k o h).2 0 ⟨_, rfl, rfl⟩⟩
  have hrng : rng .i64 (ydC x0) := d4.2
  have hcc : (ydC x0 != ydC x0) = false := by simp
  generalize hl : ρ 0 = l at *
  generalize hu0 : a.tmps.getD 3 undef = u0 at *
  -- the program's yards
  repeat refine At_seq ?_
  refine At.ops ?_
  refine evOps_take Γ_ok htb (wr := false) (π := []) 2 (frA_first hsz (den_pw hl d1) hu0 d4) (rL_rel (F := fun _ => none) pb fun k o h => (by cases h)) rfl (by repeat' (first | exact trivial | rfl | apply And.intro)) ?_
  intro a2 w2 ρ2 hA2 hF2 hd2
  have k2 : Kp w.heap.size l x0 w w2 := kp_eng hA2
  have hs2 := k2.size
  have dv : Den (rF fun _ => none) (.ag .pas x0) (a2.tmps.getD 19 undef) := den_ag (den_at hF2 19 rfl)
  refine wp_callL (n := 23) (vals := [a2.tmps.getD 19 undef]) rfl rfl rfl rfl Try.func23 rfl (by decide) ?_
  refine (c_impl dv).mono ?_
  rintro e w3 ⟨u, rfl, hB3, hfs⟩
  refine ⟨_, rfl, ?_⟩
  have k3 : Kp w2.heap.size l x0 w2 w3 := kp_call hB3 (by omega) k2.pb
  have hs3 := k3.size
  have f2 : FRel (rL l fun _ => none) 1 (frA u0 (ydC x0)) a2 := frA_of hF2 rfl (hA2.ext 0 Nat.zero_lt_one) rfl rfl rfl
  refine evOps_take Γ_ok htb (wr := false) (π := []) 5 (putO f2 (r := .t2 (.v u) (.i .i64 (ydC x0))) (v := .tuple #[u, .int .i64 (ydC x0)]) (den_tv hrng) (fun i hi => by simp [AV.ids] at hi) (some 20)) (rL_rel (F := fun _ => none) k3.pb fun k o h => (by cases h)) rfl (by repeat' (first | exact trivial | rfl | apply And.intro)) ?_
  intro a4 w4 ρ4 hA4 hF4 hd4
  refine ⟨rfl, ?_⟩
  have k4 : Kp w3.heap.size l x0 w3 w4 := kp_eng hA4
  have hs4 := k4.size
  have hfs4 : FSS (hpN w2.heap.size w4) .spot (ydL x0) u := FSS.mono (hpN_kp k4 (by omega)) hfs
  have f4 : FRel (rL l fun _ => none) 1 (frB u0 u (ydC x0)) a4 := frB_of hF4 rfl (hA4.ext 0 Nat.zero_lt_one) rfl rfl rfl rfl rfl
  -- they are compared
  repeat refine At_seq ?_
  refine At.ops ?_
  refine evOps_take Γ_ok htb (wr := false) (π := []) 2 f4 (rL_rel (F := fun _ => none) k4.pb fun k o h => (by cases h)) rfl (by repeat' (first | exact trivial | rfl | apply And.intro)) ?_
  intro a5 w5 ρ5 hA5 hF5 hd5
  have k5 : Kp w4.heap.size l x0 w4 w5 := kp_eng hA5
  have hs5 := k5.size
  have hfs5 : FSS (hpN w2.heap.size w5) .spot (ydL x0) u := FSS.mono (hpN_kp k5 (by omega)) hfs4
  have kw : Kp w.heap.size l x0 w w5 := ((k2.trans (k3.mono (by omega))).trans (k4.mono (by omega))).trans (k5.mono (by omega))
  have old : ∀ {wx : World}, Kp w.heap.size l x0 w wx → ∀ k o, ρ.F k = some o → wx.heap[k]? = some o := fun {wx} h k o hk => by
    obtain ⟨h1, h2⟩ := henv k o hk
    rw [h.old k (Array.getElem?_eq_some_iff.1 h1).1 (fun e => h2 e.symm)]; exact h1
  have v23 : a5.tmps.getD 23 undef = u := den_v.1 (den_at hF5 23 rfl)
  have v24 : a5.tmps.getD 24 undef = u0 := den_v.1 (den_at hF5 24 rfl)
  refine wp_callL (n := 24) (vals := [u, u0]) rfl rfl rfl (by rw [← v23, ← v24]; rfl) Try.func24 rfl (by decide) ?_
  refine (c_eq hL (FSS.mono hpN_le hfs5) (FSS.mono (old kw) (den_fz.1 d3))).mono ?_
  rintro e w6 ⟨rfl, hB6⟩
  refine ⟨_, rfl, ?_⟩
  have k6 : Kp w5.heap.size l x0 w5 w6 := kp_call hB6 (by omega) k5.pb
  have hs6 := k6.size
  have f5 : FRel (rL l fun _ => none) 1 (frB u0 u (ydC x0)) a5 := frB_of hF5 rfl (hA5.ext 0 Nat.zero_lt_one) rfl rfl rfl rfl rfl
  refine evOps_take Γ_ok htb (wr := false) (π := []) 6 (putO f5 (r := .d true) (v := .bool true) den_d (fun i hi => by simp [AV.ids] at hi) (some 25)) (rL_rel (F := fun _ => none) k6.pb fun k o h => (by cases h)) rfl (by repeat' (first | exact trivial | rfl | apply And.intro)) ?_
  intro a7 w7 ρ7 hA7 hF7 hd7
  refine ⟨rfl, ?_⟩
  have k7 : Kp w6.heap.size l x0 w6 w7 := kp_eng hA7
  have hs7 := k7.size
  have e31 : a7.eval (.tmp 31) = .bool false := by
    have d31 : a7.tmps.getD 31 undef = .bool (ydC x0 != ydC x0) := den_b.1 (den_at hF7 31 rfl)
    rw [hcc] at d31
    exact d31
  have f7 : FRel (rL l fun _ => none) 1 (frB u0 u (ydC x0)) a7 := frB_of hF7 rfl (hA7.ext 0 Nat.zero_lt_one) rfl rfl rfl rfl rfl
  have hfs7 : FSS (hpN w2.heap.size w7) .spot (ydL x0) u := FSS.mono (hpN_kp k7 (by omega)) (FSS.mono (hpN_kp k6 (by omega)) hfs5)
  repeat refine At_seq ?_
  refine At_condF e31 ?_
  refine At_skip ?_
  -- the marks
  repeat refine At_seq ?_
  refine At.ops ?_
  refine evOps_take Γ_ok htb (wr := false) (π := []) 1 f7 (rL_rel (F := fun _ => none) k7.pb fun k o h => (by cases h)) rfl (by repeat' (first | exact trivial | rfl | apply And.intro)) ?_
  intro a8 w8 ρ8 hA8 hF8 hd8
  refine ⟨rfl, ?_⟩
  have k8 : Kp w7.heap.size l x0 w7 w8 := kp_eng hA8
  have hs8 := k8.size
  have f8 : FRel (rL l fun _ => none) 1 ((frB u0 u (ydC x0)).set 7 (.i .i64 1)) a8 := frel_set (frB_of hF8 rfl (hA8.ext 0 Nat.zero_lt_one) rfl rfl rfl rfl rfl) 7 (den_i.2 (den_i.1 (den_at hF8 7 rfl))) (i0 rfl)
  repeat refine At_seq ?_
  refine At.ops ?_
  refine evOps_take Γ_ok htb (wr := false) (π := []) 2 f8 (rL_rel (F := fun _ => none) k8.pb fun k o h => (by cases h)) rfl (by repeat' (first | exact trivial | rfl | apply And.intro)) ?_
  intro a9 w9 ρ9 hA9 hF9 hd9
  have k9 : Kp w8.heap.size l x0 w8 w9 := kp_eng hA9
  have hs9 := k9.size
  have hfs9 : FSS (hpN w2.heap.size w9) .spot (ydL x0) u := FSS.mono (hpN_kp k9 (by omega)) (FSS.mono (hpN_kp k8 (by omega)) hfs7)
  have v32 : a9.tmps.getD 32 undef = u := den_v.1 (den_at hF9 32 rfl)
  have v33 : a9.tmps.getD 33 undef = .int .i64 1 := (den_i.1 (den_at hF9 33 rfl)).1
  refine wp_callL (n := 25) (vals := [u, .int .i64 1]) rfl rfl rfl (by rw [← v32, ← v33]; rfl) Try.func25 rfl (by decide) ?_
  refine (c_mark hL hfs9 (by omega)).mono ?_
  rintro e w10 ⟨rfl, hB10, hfs10⟩
  refine ⟨_, rfl, ?_⟩
  have k10 : Kp w2.heap.size l x0 w9 w10 := kp_call hB10 (by omega) k9.pb
  have hs10 := k10.size
  have f9 : FRel (rL l fun _ => none) 1 (frB u0 u (ydC x0)) a9 := frB_of hF9 rfl (hA9.ext 0 Nat.zero_lt_one) rfl rfl rfl rfl rfl
  have hek := endK_le (n := 100) (ydL x0) 1 fun Y hY => (hL.row Y hY).1
  have hln := hL.n
  have hrk : rng .i64 (endK 1 (ydL x0)) := by
    have : (2 * (100 : Nat) * (ydL x0).length : Int) ≤ 200 * 100 := by omega
    simp only [rng, lo, hi]; omega
  refine evOps_take Γ_ok htb (wr := false) (π := []) 1 (putO f9 (r := .i .i64 (endK 1 (ydL x0))) (v := .int .i64 (endK 1 (ydL x0))) (den_i.2 ⟨rfl, hrk⟩) (fun i hi => by simp [AV.ids] at hi) (some 34)) (rL_rel (F := fun _ => none) k10.pb fun k o h => (by cases h)) rfl (by repeat' (first | exact trivial | rfl | apply And.intro)) ?_
  intro a11 w11 ρ11 hA11 hF11 hd11
  refine ⟨rfl, ?_⟩
  have k11 : Kp w10.heap.size l x0 w10 w11 := kp_eng hA11
  have hs11 := k11.size
  have hfs11 : FSS (hpN w2.heap.size w11) .spot (mkLL 1 (ydL x0)) u := FSS.mono (hpN_kp k11 (by omega)) hfs10
  have kk : Kp w.heap.size l x0 w w11 := (((((kw.trans (k6.mono (by omega))).trans (k7.mono (by omega))).trans (k8.mono (by omega))).trans (k9.mono (by omega))).trans (k10.mono (by omega))).trans (k11.mono (by omega))
  -- from here on by the engine: the marked rows are frozen
  let F6 : Nat → Option Obj := fun k => if w.heap.size ≤ k then w11.heap[k]? else ρ.F k
  have hF6 : ∀ k o, F6 k = some o → w11.heap[k]? = some o ∧ l.blk ≠ k := fun k o hk => by
    change (if w.heap.size ≤ k then w11.heap[k]? else ρ.F k) = some o at hk
    split at hk
    · exact ⟨hk, by omega⟩
    · exact ⟨old kk k o hk, (henv k o hk).2⟩
  have hle : ∀ k o, ρ.F k = some o → F6 k = some o := fun k o hk => by
    show (if w.heap.size ≤ k then w11.heap[k]? else ρ.F k) = some o
    have := (Array.getElem?_eq_some_iff.1 (henv k o hk).1).1
    rw [if_neg (by omega)]; exact hk
  have g3 : Den (rL l F6) (.fz .spot (ydL x0)) (a11.tmps.getD 3 undef) := by
    rw [den_v.1 (den_at hF11 3 rfl)]
    exact den_fz.2 (FSS.mono hle (den_fz.1 d3))
  have g5 : Den (rL l F6) (.fz .spot (mkLL 1 (ydL x0))) (a11.tmps.getD 5 undef) := by
    rw [den_v.1 (den_at hF11 5 rfl)]
    refine den_fz.2 (FSS.mono (fun k o hk => ?_) hfs11)
    unfold hpN at hk
    split at hk
    · show (if w.heap.size ≤ k then w11.heap[k]? else ρ.F k) = some o
      rw [if_pos (by omega)]; exact hk
    · cases hk
  have fC : FRel (rL l F6) 1 (frC (ydL x0) (ydC x0)) a11 :=
    frel_set (frel_set (frel_set (frel_set (frel_set (frel_set (frel_any (hF11.size.trans rfl)) 1 (den_pw (hA11.ext 0 Nat.zero_lt_one) (den_at hF11 1 rfl)) (fun i hi => by simp [AV.ids] at hi; omega)) 3 g3 (i0 rfl)) 4 (den_i.2 (den_i.1 (den_at hF11 4 rfl))) (i0 rfl)) 5 g5 (i0 rfl)) 6 (den_i.2 (den_i.1 (den_at hF11 6 rfl))) (i0 rfl)) 7 (den_i.2 (den_i.1 (den_at hF11 7 rfl))) (i0 rfl)
  have nl : ∀ id, 1 ≤ id → ¬ liveAt [Blk.c .pas x0] id := fun id h1 h2 => by
    have := h2.lt
    simp only [List.length_cons, List.length_nil] at this
    omega
  refine At.goes (fr := frC (ydL x0) (ydC x0)) (M := [.c .pas x0]) (ρ := rL l F6) ?_ ⟨fun id hid => ?_, rL_rel kk.pb hF6, Nat.le_refl _, fun _ _ h => h, fun id h1 h2 => absurd h2 (nl id h1), fun k h1 h2 => kk.old k h1 (fun e => h2 0 ⟨_, rfl, rfl⟩ (by rw [hl]; exact e.symm)), kk.os, kk.tape, kk.output, kk.size, hle, fun k o hk => ?_⟩ hm hb hk fC (by rw [hd11, put_defers, hd9, hd8, hd7, put_defers, hd5, hd4, put_defers, hd2]; exact hd)
  · clear hF hM hF2 hF4 hF5 hF7 hF8 hF9 hF11 fC g3 g5 hF6 hle
    have hse := mkLL_self (ydL x0) 1
    have hen := endK_mk (ydL x0) 1
    have hll := mkLL_len (ydL x0) 1
    have hr1 : ∀ Y ∈ mkLL 1 (ydL x0), Y.length ≤ 1000 := fun Y hY => Nat.le_trans (mkLL_row (ydL x0) 1 (fun Y hY => (hL.row Y hY).1) Y hY) (by decide)
    have hr2 : ∀ i, i < (ydL x0).length → ((ydL x0).getD i []).length ≤ 1000 := fun i h => Nat.le_trans (hL.row _ (getD_mem h)).1 (by decide)
    refine Goes.tree Γ_ok htb 1000 false false Try.func4 rfl ?_
    ((try simp only [decide_eq_true_eq, decide_eq_false_iff_not, Bool.not_eq_true', Bool.not_eq_false', Bool.not_true, Bool.not_false, Bool.and_eq_true, Bool.or_eq_true, bne_iff_ne, beq_iff_eq, ne_eq]); (try simp only [rng, lo, hi, mnI, mxI, Int.toNat_natCast, Sg.n, Nat.mul_one, Nat.zero_add, Nat.add_zero, Nat.reduceAdd, List.getD_cons_zero, List.getD_cons_succ, hen]))
    (repeat' (first | (with_reducible apply And.intro) | intro _))
    all_goals (try first | exact trivial | (with_reducible assumption) | (show (_ : List Blk) = _; rfl) | exact hse.symm | exact absurd trivial (by assumption) | (rw [hll]; omega) | exact hr1 _ (by assumption) | exact hr2 _ (by assumption) | (first | exact trivial | (with_reducible assumption) | omega | (split <;> omega) | (split <;> split <;> omega)))
    all_goals (try (refine ⟨rfl, (by first | exact Nat.le_refl _ | exact Nat.le_of_ble_eq_true rfl), rfl, rfl, ?_, (by repeat' (first | exact trivial | rfl | apply And.intro)), rfl, rfl⟩))
    all_goals (first | contradiction | exact sameA_refl _ | trace_state)
  · obtain rfl : id = 0 := by simp only [List.length_cons, List.length_nil] at hid; omega
    exact hl.symm
  · change (if w.heap.size ≤ k then w11.heap[k]? else ρ.F k) = some o at hk
    split at hk
    · rename_i h; exact .inr (.inl h)
    · exact .inl hk
end Go.Proofs.Ytfelemoefhbphaa
namespace Go.Proofs.Ytfelemoefhbphaa.fnExactYardsOf
open Go Go.Eng Go.ChangeShapes Go.WideShapes Go.ChangeAt Go.RowKit
theorem own : ownKnob Try.prog.godebug = none := by kernel_rfl
theorem laidOut : laidOutB Try.prog = true := by kernel_rfl
set_option maxRecDepth 100000 in
theorem lifted (os : Os) (started : os.Started) (H : Type) (enc : TypeId × Value → H) :
    ReturnsInHanded {} Try.checked os 4 .any (Rows.fnExactYardsOfSpec.pre6 enc Try.prog Try.f4 Rows.fnExactYardsOfRow.domain false) (Rows.fnExactYardsOfSpec.post enc Try.prog Try.f4 false true false false) := by
  refine returnsInHanded_of_change_sized (C := Try.checked) own started (by kernel_rfl) Try.func4
    (ChangeSpec.witness6 (enc := enc) (C := Try.checked) false ⟨#[], #[zeroV .pas], []⟩ 8 (by kernel_rfl) (by kernel_rfl) (by kernel_rfl) (by kernel_rfl)) ?_
  intro W base args ds gs before hval0 hW hcnd hsz0 _
  have hval : ∀ (j : Nat) t v, Try.f4.params[j]? = some t → args[j]? = some v → Value.okWide Try.prog W .any base t v := hval0
  have hW' := hW
  obtain ⟨p, q, hA0, hV, rfl, hfz, hnd⟩ := hW
  have hA : DataW.TrodAll enc Try.prog W 0 (fun _ => true) true Try.f4.params.toList args.toList ds p := hA0
  rw [Try.params4] at hA hval
  obtain ⟨v0, vs0, d0, ds0, p0, q0, hargs, rfl, rfl, h0, r0⟩ := trodAll_cons hA
  obtain ⟨rfl, rfl, rfl⟩ := trodAll_nil r0
  obtain rfl : args = #[v0] := by cases args; simp_all
  obtain ⟨rfl, rfl⟩ := trodVars_none hV
  obtain ⟨x0, e0, z0, l0, c0⟩ := open_agg Γ_ok (σ := .pas) rfl rfl (by decide) rfl (hval 0 _ v0 rfl rfl) h0
  subst z0
  clear hA0 hval0 hsz0
  refine (l_ExactYardsOf x0 ⟨fun _ => ⟨0, 0, 0, .none, 0⟩, fun k => W.heap[k]?, globW W⟩ [v0] W ⟨⟨e0, l0, c0, rfl⟩, trivial⟩ (mrel_nil fun _ _ h => h) (fun x hx i hi => (by simp at hx; subst hx; cases hi))).mono fun e W' ⟨v, ρ', he, hv, hAft, _⟩ => ?_
  subst he
  obtain rfl : v = .bool true := hv
  have bel := hAft.below
  have t0 := Below.trod laidOut (by kernel_rfl) (by decide +kernel) h0 bel (fun x hx => (by cases hx))
  exact ⟨_, rfl, _, _, _, [], _, [], hW', trodAll_mk1 (shut_bool Try.underlying4 _), (trodAll_cons_mk t0 trodAll_mk0), rfl, bel.frame _, fun h => (by cases h)⟩
theorem and_t {a b : Bool} (h : a = true) (h' : b = true) : (a && b) = true := by rw [h, h']; rfl
set_option maxHeartbeats 4000000 in
theorem facts : joinedFacts Try.pinned.checked.prog 4 Try.f4 Rows.fnExactYardsOfSpec Rows.fnExactYardsOfRow = true := by
  unfold joinedFacts
  repeat' (with_reducible apply and_t)
  all_goals (as_aux_lemma => kernel_rfl)
theorem over : Rows.fnExactYardsOfRow.holds Try.pinned (OpenSpec.ofChange Rows.fnExactYardsOfSpec) :=
  OpenClaim.holds_of_wide 4 Try.f4 rfl rfl rfl rfl rfl rfl rfl ⟨rfl, rfl, rfl, rfl, rfl⟩ rfl rfl rfl rfl rfl (by kernel_rfl) Try.func4 facts
    (of_decide_eq_true (by kernel_rfl)) (by unfold Func.isWrapper; first | (rw [if_pos (by decide +kernel)]; kernel_rfl) | (rw [if_neg (by decide +kernel)]; exact ⟨rfl, rfl⟩))
    (fun os started H enc _ => lifted os started H enc)
end Go.Proofs.Ytfelemoefhbphaa.fnExactYardsOf
namespace Go.Proofs.Ytfelemoefhbphaa
theorem fnExactYardsOf_holds : Rows.FnExactYardsOfSaid := fnExactYardsOf.over
#print axioms fnExactYardsOf_holds
end Go.Proofs.Ytfelemoefhbphaa

