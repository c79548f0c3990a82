/- The engine, part 11: a region in the text's order. No conditions. -/
import Derived.Test.YtfelemoefhbphaaEng10
namespace Go.Eng
open Go Go.RowKit
variable {P : Program} {Γ : Tab}

def setO (fr : List AV) (d : Option Tmp) (r : AV) : List AV :=
  match d with
  | some d => fr.set d r
  | .none => fr

/-- A test is decided by the path. -/
def decide1 (fr : List AV) (t : Tmp) (π : List Bool) : Option (Bool × List AV × List Bool × List Prop) :=
  match fr.getD t .any with
  | .d true => some (true, fr, π, [])
  | .d false => some (false, fr, π, [])
  | .b p => match π with
    | true :: π => some (true, fr.set t (.d true), π, [p = true])
    | false :: π => some (false, fr.set t (.d false), π, [p = false])
    | [] => .none
  | _ => .none

theorem decide1_sound {ρ : Rho} {n : Nat} {fr fr' : List AV} {a : Act} {t : Tmp} {π π' : List Bool} {bit : Bool} {v : List Prop} (hF : FRel ρ n fr a) (h : decide1 fr t π = some (bit, fr', π', v)) (hv : allP v) :
    FRel ρ n fr' a ∧ a.tmps[t]? = some (.bool bit) ∧ fr'.length = fr.length := by
  have hd := hF.den t
  have key : ∀ q : AV, fr.getD t .any = q → q ≠ .any → Den ρ q (.bool bit) → a.tmps.getD t undef = .bool bit → a.tmps[t]? = some (.bool bit) := by
    intro q hq hne _ ha
    have hlt : t < fr.length := by
      rcases Nat.lt_or_ge t fr.length with h | h
      · exact h
      · exfalso; apply hne; rw [← hq, List.getD_eq_getElem?_getD, List.getElem?_eq_none h]; rfl
    have hlt' : t < a.tmps.size := by rw [hF.size]; exact hlt
    rw [Array.getElem?_eq_getElem hlt']
    rw [Array.getD_eq_getD_getElem?, Array.getElem?_eq_getElem hlt'] at ha
    exact congrArg some ha
  have set : ∀ p : Bool, fr.getD t .any = .b p → p = bit → FRel ρ n (fr.set t (.d bit)) a := by
    intro p hp hb
    have e : ∀ s, (fr.set t (.d bit)).getD s .any = if t = s ∧ s < fr.length then .d bit else fr.getD s .any := by
      intro s
      rw [List.getD_eq_getElem?_getD, List.getD_eq_getElem?_getD, List.getElem?_set]
      by_cases hs : t = s
      · subst hs
        by_cases hl : t < fr.length
        · simp [hl]
        · simp [hl]
      · simp [hs]
    refine ⟨by rw [List.length_set]; exact hF.size, fun s => ?_, fun s => ?_⟩
    · rw [e]
      split
      · rename_i hs
        rw [← hs.1]
        rw [hp] at hd
        simp only [Den] at hd ⊢
        rw [hd, hb]
      · exact hF.den s
    · rw [e]
      split
      · simp [AV.ids]
      · exact hF.ids s
  unfold decide1 at h
  split at h
  · rename_i e; cases h; rw [e] at hd; exact ⟨hF, key _ e (by simp) rfl hd, rfl⟩
  · rename_i e; cases h; rw [e] at hd; exact ⟨hF, key _ e (by simp) rfl hd, rfl⟩
  · rename_i p e
    rw [e] at hd
    simp only [Den] at hd
    split at h
    · cases h
      have hp : p = true := hv.1
      exact ⟨set p e hp, key _ e (by simp) (by simp only [Den]; rw [hp]) (by rw [hd, hp]), List.length_set⟩
    · cases h
      have hp : p = false := hv.1
      exact ⟨set p e hp, key _ e (by simp) (by simp only [Den]; rw [hp]) (by rw [hd, hp]), List.length_set⟩
    · cases h
  · cases h

/-- Is it wanted? What was passed by yields nothing. -/
def guard1 (fr : List AV) (t : Tmp) (want : Bool) (π : List Bool) : Option (Bool × List AV × List Bool × List Prop) :=
  match fr.getD t .any with
  | .un => some (false, fr, π, [])
  | _ => match decide1 fr t π with
    | some (bit, fr, π, v) => some (bit == want, fr, π, v)
    | .none => .none

/-- Decide what an operation picks by. -/
def decideP (fr : List AV) (π : List Bool) : Op → Option (List AV × List Bool × List Prop)
  | .pick (.tmp t) _ _ => match decide1 fr t π with
    | some (_, fr, π, v) => some (fr, π, v)
    | .none => .none
  | _ => some (fr, π, [])

def evOps (Γ : Tab) (wr : Bool) (tb : FuncId → Option Fun) (all : Array Oper) : List Oper → List AV → List Blk → List Bool → Option (List AV × List Blk × List Bool × List Prop)
  | [], fr, M, π => some (fr, M, π, [])
  | o :: rest, fr, M, π =>
    match (match o.guard with
      | .none => some (true, fr, π, [])
      | some (j, want) => match (all[j]?).bind (·.dst) with
        | some t => guard1 fr t want π
        | .none => .none) with
    | some (true, fr, π, v1) => match decideP fr π o.op with
      | some (fr, π, v2) => match evO Γ wr tb M (evA fr) o.op with
        | some (r, M, v3) => fAV r fun r => fM M fun M => fL (setO fr o.dst r) fun fr => fP (v1 ++ v2 ++ v3) fun v => match evOps Γ wr tb all rest fr M π with
          | some (fr, M, π, v') => some (fr, M, π, v ++ v')
          | .none => .none
        | .none => .none
      | .none => .none
    | some (false, fr, π, v1) => fL (setO fr o.dst AV.un) fun fr => match evOps Γ wr tb all rest fr M π with
      | some (fr, M, π, v') => some (fr, M, π, v1 ++ v')
      | .none => .none
    | .none => .none

theorem putO {ρ : Rho} {n : Nat} {fr : List AV} {a : Act} (h : FRel ρ n fr a) {r : AV} {v : Value} (hd : Den ρ r v) (hi : ∀ i ∈ r.ids, i < n) (d : Option Tmp) : FRel ρ n (setO fr d r) (a.put d v) := by
  have := h.put hd hi d
  cases d <;> exact this

theorem put_defers (a : Act) (d : Option Tmp) (v : Value) : (a.put d v).defers = a.defers := by cases d <;> rfl

theorem evOps_sound (H : TabOk P Γ) {tb : FuncId → Option Fun} (htb : TbOk P tb) {wr : Bool} {all : Array Oper} {Q : Exit → Act → World → Prop} :
    ∀ (l : List Oper) (ρ : Rho) (fr : List AV) (M : List Blk) (π : List Bool) (a : Act) (w : World) (fr' : List AV) (M' : List Blk) (π' : List Bool) (vs : List Prop),
      FRel ρ M.length fr a → MRel ρ M w → evOps Γ wr tb all l fr M π = some (fr', M', π', vs) → allP vs →
      (∀ a' w' ρ', After ρ M M' w w' ρ' → FRel ρ' M'.length fr' a' → a'.defers = a.defers → Q .normal a' w') → wpList P all Q l a w := by
  intro l
  induction l with
  | nil =>
    intro ρ fr M π a w fr' M' π' vs hF hM h hv K
    cases h
    exact K a w ρ (After.refl hM) hF rfl
  | cons o rest ih =>
    intro ρ fr M π a w fr' M' π' vs hF hM h hv K
    simp only [evOps] at h
    -- the guard
    have guard : ∀ (b : Bool) (fr1 : List AV) (π1 : List Bool) (v1 : List Prop),
        (match o.guard with
          | .none => some (true, fr, π, [])
          | some (j, want) => match (all[j]?).bind (·.dst) with
            | some t => guard1 fr t want π
            | .none => .none) = some (b, fr1, π1, v1) → allP v1 → Region.wanted o (yielded all a.tmps) = b ∧ FRel ρ M.length fr1 a := by
      intro b fr1 π1 v1 hg hv1
      unfold Region.wanted
      split at hg
      · cases hg; rename_i e; rw [e]; exact ⟨rfl, hF⟩
      · rename_i j want e
        rw [e]
        dsimp only
        split at hg
        · rename_i t ht
          unfold guard1 at hg
          split at hg
          · rename_i hun
            cases hg
            refine ⟨?_, hF⟩
            have hdt := hF.den t
            rw [hun] at hdt
            unfold yielded
            rw [ht]
            simp only [Option.bind_some]
            rw [Array.getD_eq_getD_getElem?] at hdt
            cases hq : a.tmps[t]? with
            | none => rfl
            | some q =>
              rw [hq] at hdt
              simp only [Den, Option.getD_some] at hdt
              subst hdt
              rfl
          split at hg
          · rename_i bit fr2 π2 v2 hd
            cases hg
            obtain ⟨q1, q2, -⟩ := decide1_sound hF hd hv1
            refine ⟨?_, q1⟩
            unfold yielded
            rw [ht]
            simp only [Option.bind_some, q2]
            cases bit <;> cases want <;> rfl
          · cases hg
        · cases hg
    split at h
    · rename_i fr1 π1 v1 hg
      split at h
      · rename_i fr2 π2 v2 hd
        split at h
        · rename_i r M1 v3 ho
          simp only [fAV_eq, fM_eq, fL_eq, fP_eq] at h
          split at h
          · rename_i fr3 M3 π3 v4 hrest
            cases h
            rw [allP_app, allP_app, allP_app] at hv
            obtain ⟨⟨⟨hv1, hv2⟩, hv3⟩, hv4⟩ := hv
            obtain ⟨hw, hF1⟩ := guard true fr1 π1 v1 hg hv1
            have hF2 : FRel ρ M.length fr2 a := by
              unfold decideP at hd
              split at hd
              · split at hd
                · rename_i hd1
                  cases hd
                  exact (decide1_sound hF1 hd1 hv2).1
                · cases hd
              · cases hd; exact hF1
            unfold wpList
            rw [hw]
            simp only [if_true]
            refine .inl (evO_sound H htb (den_op hF2) (ids_op hF2) hM ho hv3 ?_)
            intro v w' ρ' hA hden hids
            have hF3 : FRel ρ' M1.length (setO fr2 o.dst r) (a.put o.dst v) := putO (FRel.ext hA.fmono hF2 hA.ext hA.len) hden hids o.dst
            refine ih ρ' _ M1 π2 _ w' _ _ _ _ hF3 hA.rel hrest hv4 ?_
            intro a' w2 ρ2 hA2 hF4 hdef
            exact K a' w2 ρ2 (hA.trans hA2) hF4 (by rw [hdef, put_defers])
          · cases h
        · cases h
      · cases h
    · rename_i fr1 π1 v1 hg
      simp only [fL_eq] at h
      split at h
      · rename_i fr3 M3 π3 v4 hrest
        cases h
        rw [allP_app] at hv
        obtain ⟨hv1, hv4⟩ := hv
        obtain ⟨hw, hF1⟩ := guard false fr1 π1 v1 hg hv1
        unfold wpList
        rw [hw]
        simp only [Bool.false_eq_true, if_false]
        refine ih ρ _ M π1 _ w _ _ _ _ (putO hF1 (r := .un) (v := undef) rfl (by simp [AV.ids]) o.dst) hM hrest hv4 ?_
        intro a' w2 ρ2 hA2 hF4 hdef
        exact K a' w2 ρ2 hA2 hF4 (by rw [hdef, put_defers])
      · cases h
    · cases h

end Go.Eng
