/- The engine, part 21: a body's run both ways at each open test. No conditions. -/
import Derived.Test.YtfelemoefhbphaaEng20b
namespace Go.Eng
open Go Go.RowKit
variable {P : Program} {Γ : Tab}

def cj : List Prop → Prop → (Prop → Option Prop) → Option Prop
  | [], q, K => K q
  | p :: l, q, K => cj l q fun q => K (p ∧ q)

theorem cj_some : ∀ (l : List Prop) (q : Prop) (K : Prop → Option Prop) (Q : Prop), cj l q K = some Q → ∃ q', K q' = some Q ∧ (q' ↔ (allP l ∧ q))
  | [], q, K, Q, h => ⟨q, h, by simp [allP]⟩
  | p :: l, q, K, Q, h => by
    obtain ⟨q', h1, h2⟩ := cj_some l q (fun q => K (p ∧ q)) Q h
    exact ⟨_, h1, by rw [h2]; simp only [allP, and_assoc]⟩

def conjO (v : List Prop) (q : Option Prop) : Option Prop :=
  match q with
  | some q => cj v q some
  | .none => .none

theorem conjO_some {v : List Prop} {q : Option Prop} {Q : Prop} (h : conjO v q = some Q) (hQ : Q) : allP v ∧ ∃ q', q = some q' ∧ q' := by
  unfold conjO at h
  split at h
  · obtain ⟨q', h1, h2⟩ := cj_some _ _ _ _ h
    cases h1
    exact ⟨(h2.1 hQ).1, _, rfl, (h2.1 hQ).2⟩
  · cases h

/-- Both ways. -/
def br (p : Bool) (A B : Option Prop) : Option Prop :=
  match A with
  | some a => (match B with
    | some b => some ((p = true → a) ∧ (p = false → b))
    | .none => some ((p = true → a) ∧ (p = false → False)))
  | .none => (match B with
    | some b => some ((p = true → False) ∧ (p = false → b))
    | .none => .none)

theorem br_some {p : Bool} {A B : Option Prop} {Q : Prop} (h : br p A B = some Q) (hQ : Q) : (p = true ∧ ∃ a, A = some a ∧ a) ∨ (p = false ∧ ∃ b, B = some b ∧ b) := by
  unfold br at h
  split at h
  · split at h
    · cases h
      cases p
      · exact .inr ⟨rfl, _, rfl, hQ.2 rfl⟩
      · exact .inl ⟨rfl, _, rfl, hQ.1 rfl⟩
    · cases h
      cases p
      · exact (hQ.2 rfl).elim
      · exact .inl ⟨rfl, _, rfl, hQ.1 rfl⟩
  · split at h
    · cases h
      cases p
      · exact .inr ⟨rfl, _, rfl, hQ.2 rfl⟩
      · exact (hQ.1 rfl).elim
    · cases h

def decT (fr : List AV) (t : Tmp) (K : Bool → List AV → Option Prop) : Option Prop :=
  match fr.getD t .any with
  | .d true => K true fr
  | .d false => K false fr
  | .b p => br p (fL (fr.set t (.d true)) fun fr => K true fr) (fL (fr.set t (.d false)) fun fr => K false fr)
  | _ => .none

theorem decT_some {fr : List AV} {t : Tmp} {K : Bool → List AV → Option Prop} {Q : Prop} (h : decT fr t K = some Q) (hQ : Q) :
    ∃ π1 bit fr' v, (∀ π, decide1 fr t (π1 ++ π) = some (bit, fr', π, v)) ∧ allP v ∧ ∃ Q', K bit fr' = some Q' ∧ Q' := by
  unfold decT at h
  split at h
  · rename_i e; exact ⟨[], true, fr, [], fun π => by simp only [decide1, e]; rfl, trivial, Q, h, hQ⟩
  · rename_i e; exact ⟨[], false, fr, [], fun π => by simp only [decide1, e]; rfl, trivial, Q, h, hQ⟩
  · rename_i p e
    rw [fL_eq, fL_eq] at h
    rcases br_some h hQ with ⟨hp, a, h1, h2⟩ | ⟨hp, a, h1, h2⟩
    · exact ⟨[true], true, _, [p = true], fun π => by simp only [decide1, e]; rfl, ⟨hp, trivial⟩, a, h1, h2⟩
    · exact ⟨[false], false, _, [p = false], fun π => by simp only [decide1, e]; rfl, ⟨hp, trivial⟩, a, h1, h2⟩
  · cases h

def pickT (fr : List AV) (K : List AV → Option Prop) : Op → Option Prop
  | .pick (.tmp t) _ _ => decT fr t fun _ fr => K fr
  | _ => K fr

theorem pickT_some {fr : List AV} {K : List AV → Option Prop} {op : Op} {Q : Prop} (h : pickT fr K op = some Q) (hQ : Q) :
    ∃ π1 fr' v, (∀ π, decideP fr (π1 ++ π) op = some (fr', π, v)) ∧ allP v ∧ ∃ Q', K fr' = some Q' ∧ Q' := by
  unfold pickT at h
  split at h
  · obtain ⟨π1, bit, fr', v, h1, h2, Q', h3, h4⟩ := decT_some h hQ
    exact ⟨π1, fr', v, fun π => by simp only [decideP, h1], h2, Q', h3, h4⟩
  · rename_i hn
    refine ⟨[], fr, [], fun π => ?_, trivial, Q, h, hQ⟩
    unfold decideP
    split
    · exact absurd rfl (hn _ _ _)
    · rfl

def guardT (all : Array Oper) (fr : List AV) (K : Bool → List AV → Option Prop) : Option (Nat × Bool) → Option Prop
  | .none => K true fr
  | some (j, want) => match (all[j]?).bind (·.dst) with
    | some t => (match fr.getD t .any with
      | .un => K false fr
      | _ => decT fr t fun bit fr => K (bit == want) fr)
    | .none => .none

theorem guardT_some {all : Array Oper} {fr : List AV} {K : Bool → List AV → Option Prop} {g : Option (Nat × Bool)} {Q : Prop} (h : guardT all fr K g = some Q) (hQ : Q) :
    ∃ π1 ok fr' v, ((g = .none ∧ ok = true ∧ fr' = fr ∧ π1 = [] ∧ v = []) ∨ ∃ j want t, g = some (j, want) ∧ (all[j]?).bind (·.dst) = some t ∧ ∀ π, guard1 fr t want (π1 ++ π) = some (ok, fr', π, v)) ∧
      allP v ∧ ∃ Q', K ok fr' = some Q' ∧ Q' := by
  unfold guardT at h
  split at h
  · exact ⟨[], true, fr, [], .inl ⟨rfl, rfl, rfl, rfl, rfl⟩, trivial, Q, h, hQ⟩
  · rename_i j want
    split at h
    · rename_i t ht
      split at h
      · rename_i e
        exact ⟨[], false, fr, [], .inr ⟨j, want, t, rfl, ht, fun π => by simp only [guard1, e]; rfl⟩, trivial, Q, h, hQ⟩
      · rename_i hne
        obtain ⟨π1, bit, fr', v, h1, hv, hk⟩ := decT_some h hQ
        refine ⟨π1, _, fr', v, .inr ⟨j, want, t, rfl, ht, fun π => ?_⟩, hv, hk⟩
        unfold guard1
        split
        · rename_i e; exact absurd e hne
        · rw [h1]
    · cases h

def evOpsT (Γ : Tab) (wr : Bool) (tb : FuncId → Option Fun) (all : Array Oper) : List Oper → List AV → List Blk → (List AV → List Blk → Option Prop) → Option Prop
  | [], fr, M, K => K fr M
  | o :: rest, fr, M, K =>
    guardT all fr (fun ok fr => match ok with
      | true => pickT fr (fun fr => match evO Γ wr tb M (evA fr) o.op with
        | some (r, M, v3) => fAV r fun r => fM M fun M => fL (setO fr o.dst r) fun fr => conjO v3 (evOpsT Γ wr tb all rest fr M K)
        | .none => .none) o.op
      | false => fL (setO fr o.dst AV.un) fun fr => evOpsT Γ wr tb all rest fr M K) o.guard

theorem evOpsT_some {wr : Bool} {tb : FuncId → Option Fun} {all : Array Oper} {K : List AV → List Blk → Option Prop} : ∀ (l : List Oper) (fr : List AV) (M : List Blk) (Q : Prop),
    evOpsT Γ wr tb all l fr M K = some Q → Q → ∃ π1 fr' M' v, (∀ π, evOps Γ wr tb all l fr M (π1 ++ π) = some (fr', M', π, v)) ∧ allP v ∧ ∃ Q', K fr' M' = some Q' ∧ Q' := by
  intro l
  induction l with
  | nil => intro fr M Q h hQ; exact ⟨[], fr, M, [], fun π => rfl, trivial, Q, h, hQ⟩
  | cons o rest ih =>
    intro fr M Q h hQ
    simp only [evOpsT] at h
    obtain ⟨π0, ok, fr1, v1, hg, hv1, Q1, h1, hQ1⟩ := guardT_some h hQ
    cases ok with
    | true =>
      dsimp only at h1
      obtain ⟨π1, fr2, v2, hp, hv2, Q2, h2, hQ2⟩ := pickT_some h1 hQ1
      split at h2
      · rename_i r M1 v3 he
        simp only [fAV_eq, fM_eq, fL_eq] at h2
        obtain ⟨hv3, Q3, h3, hQ3⟩ := conjO_some h2 hQ2
        obtain ⟨π2, fr3, M3, v4, h4, hv4, hk⟩ := ih _ _ _ h3 hQ3
        refine ⟨π0 ++ (π1 ++ π2), fr3, M3, v1 ++ v2 ++ v3 ++ v4, fun π => ?_, allP_app.2 ⟨allP_app.2 ⟨allP_app.2 ⟨hv1, hv2⟩, hv3⟩, hv4⟩, hk⟩
        rcases hg with ⟨hg, hok, rfl, rfl, rfl⟩ | ⟨j, want, t, hg, ht, hd⟩
        · simp only [evOps, hg, List.nil_append, List.append_assoc, hp, he, fAV_eq, fM_eq, fL_eq, fP_eq, h4]
        · simp only [evOps, hg, ht, List.append_assoc, hd, hp, he, fAV_eq, fM_eq, fL_eq, fP_eq, h4]
      · cases h2
    | false =>
      dsimp only at h1
      rw [fL_eq] at h1
      obtain ⟨π2, fr3, M3, v4, h4, hv4, hk⟩ := ih _ _ _ h1 hQ1
      refine ⟨π0 ++ π2, fr3, M3, v1 ++ v4, fun π => ?_, allP_app.2 ⟨hv1, hv4⟩, hk⟩
      rcases hg with ⟨hg, hok, rfl, rfl, rfl⟩ | ⟨j, want, t, hg, ht, hd⟩
      · cases hok
      · simp only [evOps, hg, ht, List.append_assoc, hd, fL_eq, h4]

def decDT (rs : List AV) (δ : List (Nat × Bool)) (j : Nat) (K : Bool → List (Nat × Bool) → Option Prop) : Option Prop :=
  match dget δ j with
  | some b => K b δ
  | .none => match rs.getD j .any with
    | .d b => K b δ
    | .b p => br p (K true ((j, true) :: δ)) (K false ((j, false) :: δ))
    | _ => .none

theorem decDT_some {rs : List AV} {δ : List (Nat × Bool)} {j : Nat} {K : Bool → List (Nat × Bool) → Option Prop} {Q : Prop} (h : decDT rs δ j K = some Q) (hQ : Q) :
    ∃ π1 bit δ' v, (∀ π, decD rs δ j (π1 ++ π) = some (bit, δ', π, v)) ∧ allP v ∧ ∃ Q', K bit δ' = some Q' ∧ Q' := by
  unfold decDT at h
  split at h
  · rename_i b e; exact ⟨[], b, δ, [], fun π => by simp only [decD, e]; rfl, trivial, Q, h, hQ⟩
  · rename_i e
    split at h
    · rename_i b e2; exact ⟨[], b, δ, [], fun π => by simp only [decD, e, e2]; rfl, trivial, Q, h, hQ⟩
    · rename_i p e2
      rcases br_some h hQ with ⟨hp, a, h1, h2⟩ | ⟨hp, a, h1, h2⟩
      · exact ⟨[true], true, _, [p = true], fun π => by simp only [decD, e, e2]; rfl, ⟨hp, trivial⟩, a, h1, h2⟩
      · exact ⟨[false], false, _, [p = false], fun π => by simp only [decD, e, e2]; rfl, ⟨hp, trivial⟩, a, h1, h2⟩
    · cases h

def guardDT (all : List Oper) (bk : Nat) (rs : List AV) (δ : List (Nat × Bool)) (K : Bool → List (Nat × Bool) → Option Prop) : Option (Nat × Bool) → Option Prop
  | .none => K true δ
  | some (j, want) => if Nat.testBit bk j = true ∧ ((all[j]?).bind (·.dst)).isSome = true then (match rs.getD j .any with
    | .un => K false δ
    | _ => decDT rs δ j fun b δ => K (b == want) δ) else .none

theorem guardDT_some {all : List Oper} {bk : Nat} {rs : List AV} {δ : List (Nat × Bool)} {K : Bool → List (Nat × Bool) → Option Prop} {g : Option (Nat × Bool)} {Q : Prop} (h : guardDT all bk rs δ K g = some Q) (hQ : Q) :
    ∃ π1 ok δ' v, ((g = .none ∧ ok = true ∧ δ' = δ ∧ π1 = [] ∧ v = []) ∨ ∃ j want, g = some (j, want) ∧ (Nat.testBit bk j = true ∧ ((all[j]?).bind (·.dst)).isSome = true) ∧ ∀ π, guardD rs δ j want (π1 ++ π) = some (ok, δ', π, v)) ∧
      allP v ∧ ∃ Q', K ok δ' = some Q' ∧ Q' := by
  unfold guardDT at h
  split at h
  · exact ⟨[], true, δ, [], .inl ⟨rfl, rfl, rfl, rfl, rfl⟩, trivial, Q, h, hQ⟩
  · rename_i j want
    split at h
    · rename_i ht
      split at h
      · rename_i e
        exact ⟨[], false, δ, [], .inr ⟨j, want, rfl, ht, fun π => by simp only [guardD, e]; rfl⟩, trivial, Q, h, hQ⟩
      · rename_i hne
        obtain ⟨π1, bit, δ', v, h1, hv, hk⟩ := decDT_some h hQ
        refine ⟨π1, _, δ', v, .inr ⟨j, want, rfl, ht, fun π => ?_⟩, hv, hk⟩
        unfold guardD
        split
        · rename_i e; exact absurd e hne
        · rw [h1]
    · cases h

def pickDT (all : List Oper) (rs : List AV) (δ : List (Nat × Bool)) (K : List (Nat × Bool) → Option Prop) : Op → Option Prop
  | .pick (.tmp t) _ _ => (match wrt all 0 t with
    | some j => decDT rs δ j fun _ δ => K δ
    | .none => K δ)
  | _ => K δ

theorem pickDT_some {all : List Oper} {rs : List AV} {δ : List (Nat × Bool)} {K : List (Nat × Bool) → Option Prop} {op : Op} {Q : Prop} (h : pickDT all rs δ K op = some Q) (hQ : Q) :
    ∃ π1 δ' v, ((π1 = [] ∧ δ' = δ ∧ v = [] ∧ ∀ t a b, op = .pick (.tmp t) a b → wrt all 0 t = .none) ∨ ∃ t a b j bit, op = .pick (.tmp t) a b ∧ wrt all 0 t = some j ∧ ∀ π, decD rs δ j (π1 ++ π) = some (bit, δ', π, v)) ∧
      allP v ∧ ∃ Q', K δ' = some Q' ∧ Q' := by
  unfold pickDT at h
  split at h
  · rename_i t a b
    split at h
    · rename_i j hw
      obtain ⟨π1, bit, δ2, v2, h2, hv2, hk⟩ := decDT_some h hQ
      exact ⟨π1, δ2, v2, .inr ⟨t, a, b, j, bit, rfl, hw, h2⟩, hv2, hk⟩
    · rename_i hw
      refine ⟨[], δ, [], .inl ⟨rfl, rfl, rfl, fun t' a' b' e => ?_⟩, trivial, Q, h, hQ⟩
      cases e; exact hw
  · rename_i hno
    exact ⟨[], δ, [], .inl ⟨rfl, rfl, rfl, fun t a b e => (hno t a b e).elim⟩, trivial, Q, h, hQ⟩

def evDT (Γ : Tab) (wr : Bool) (tb : FuncId → Option Fun) (all : List Oper) (bs : List Nat) (fr0 : List AV) (n0 : Nat) :
    List Oper → Nat → List AV → List Blk → List Nat → List (Nat × Bool) → (List AV → List Blk → List Nat → List (Nat × Bool) → Option Prop) → Option Prop
  | [], _, rs, M, births, δ, K => K rs M births δ
  | o :: rest, k, rs, M, births, δ, K =>
    guardDT all (bs.getD k 0) rs δ (fun ok δ => match ok with
      | true => pickDT all rs δ (fun δ =>
        fM (maskF n0 births (fun j => tbit (bs.getD k 0) j) M 0) fun Mk =>
        match evQ Γ wr tb Mk (evE all bs fr0 rs δ k M.length) o.op with
        | some (r, news, v3) => fAV r fun r => fM news fun news =>
          if ((r.ids.all (idOk n0 (births ++ news.map fun _ => k) (bs.getD k 0) k)) && news.all fun b => match b with
            | .r vs => vs.all fun x => x.ids.all (idOk n0 (births ++ news.map fun _ => k) (bs.getD k 0) k)
            | _ => true) = true then
            conjO v3 (fS (rs ++ [r]) fun rs1 => fS (M ++ news) fun M1 => fS (births ++ news.map fun _ => k) fun b1 => evDT Γ wr tb all bs fr0 n0 rest (k + 1) rs1 M1 b1 δ K)
          else .none
        | .none => .none) o.op
      | false => fS (rs ++ [AV.un]) fun rs1 => evDT Γ wr tb all bs fr0 n0 rest (k + 1) rs1 M births δ K) o.guard

theorem evDT_some {wr : Bool} {tb : FuncId → Option Fun} {all : List Oper} {bs : List Nat} {fr0 : List AV} {n0 : Nat} {K : List AV → List Blk → List Nat → List (Nat × Bool) → Option Prop} :
    ∀ (l : List Oper) (k : Nat) (rs : List AV) (M : List Blk) (births : List Nat) (δ : List (Nat × Bool)) (Q : Prop),
    evDT Γ wr tb all bs fr0 n0 l k rs M births δ K = some Q → Q →
    ∃ π1 rs' M' b' δ' v, (∀ π, evD Γ wr tb all bs fr0 n0 l k rs M births δ (π1 ++ π) = some (rs', M', b', δ', π, v)) ∧ allP v ∧ ∃ Q', K rs' M' b' δ' = some Q' ∧ Q' := by
  intro l
  induction l with
  | nil => intro k rs M births δ Q h hQ; exact ⟨[], rs, M, births, δ, [], fun π => rfl, trivial, Q, h, hQ⟩
  | cons o rest ih =>
    intro k rs M births δ Q h hQ
    simp only [evDT, fS_eq] at h
    obtain ⟨π0, ok, δ1, v1, hg, hv1, Q1, h1, hQ1⟩ := guardDT_some h hQ
    cases ok with
    | true =>
      dsimp only at h1
      obtain ⟨π1, δ2, v2, hp, hv2, Q2, h2, hQ2⟩ := pickDT_some h1 hQ1
      rw [fM_eq] at h2
      split at h2
      · rename_i r news v3 he
        simp only [fAV_eq, fM_eq] at h2
        split at h2
        · rename_i hc
          obtain ⟨hv3, Q3, h3, hQ3⟩ := conjO_some h2 hQ2
          obtain ⟨π2, rs', M', b', δ', v4, h4, hv4, hk⟩ := ih _ _ _ _ _ _ h3 hQ3
          refine ⟨π0 ++ (π1 ++ π2), rs', M', b', δ', v1 ++ v2 ++ v3 ++ v4, fun π => ?_, allP_app.2 ⟨allP_app.2 ⟨allP_app.2 ⟨hv1, hv2⟩, hv3⟩, hv4⟩, hk⟩
          have key : ∀ (π : List Bool), evD Γ wr tb all bs fr0 n0 (o :: rest) k rs M births δ (π0 ++ π) = (match (some (true, δ1, π, v1) : Option (Bool × List (Nat × Bool) × List Bool × List Prop)) with
            | some (true, δ, π, v1) => (match (match o.op with
              | .pick (.tmp t) _ _ => (match wrt all 0 t with
                | some j => (match decD rs δ j π with
                  | some (_, δ, π, v) => some (δ, π, v)
                  | .none => .none)
                | .none => some (δ, π, []))
              | _ => some (δ, π, [])) with
              | some (δ, π, v2) =>
                fM (maskF n0 births (fun j => tbit (bs.getD k 0) j) M 0) fun Mk =>
                match evQ Γ wr tb Mk (evE all bs fr0 rs δ k M.length) o.op with
                | some (r, news, v3) => fAV r fun r => fM news fun news => fP (v1 ++ v2 ++ v3) fun v =>
                  if ((r.ids.all (idOk n0 (births ++ news.map fun _ => k) (bs.getD k 0) k)) && news.all fun b => match b with
                    | .r vs => vs.all fun x => x.ids.all (idOk n0 (births ++ news.map fun _ => k) (bs.getD k 0) k)
                    | _ => true) = true then
                    (match evD Γ wr tb all bs fr0 n0 rest (k + 1) (rs ++ [r]) (M ++ news) (births ++ news.map fun _ => k) δ π with
                    | some (rs, M, births, δ, π, v') => some (rs, M, births, δ, π, v ++ v')
                    | .none => .none)
                  else .none
                | .none => .none
              | .none => .none)
            | _ => .none) := by
            intro π
            rcases hg with ⟨hg, hok, rfl, rfl, rfl⟩ | ⟨j, want, hg, ht, hd⟩
            · simp only [evD, fS_eq, hg, List.nil_append]; rfl
            · simp only [evD, fS_eq, hg, if_pos ht, hd]; rfl
          have key2 : ∀ (π : List Bool), (match o.op with
              | .pick (.tmp t) _ _ => (match wrt all 0 t with
                | some j => (match decD rs δ1 j (π1 ++ π) with
                  | some (_, δ, π, v) => some (δ, π, v)
                  | .none => .none)
                | .none => some (δ1, π1 ++ π, []))
              | _ => some (δ1, π1 ++ π, []) : Option (List (Nat × Bool) × List Bool × List Prop)) = some (δ2, π, v2) := by
            intro π
            rcases hp with ⟨rfl, rfl, rfl, hno⟩ | ⟨t, a, b, j, bit, hop, hw, hd⟩
            · split
              · rename_i t a b hop
                rw [hno t a b hop]; rfl
              · rfl
            · simp only [hop, hw, hd]
          rw [List.append_assoc, key, List.append_assoc]
          dsimp only
          rw [key2]
          dsimp only
          simp only [fM_eq, he, fAV_eq, fP_eq]
          rw [if_pos hc, h4]
        · cases h2
      · cases h2
    | false =>
      dsimp only at h1
      obtain ⟨π2, rs', M', b', δ', v4, h4, hv4, hk⟩ := ih _ _ _ _ _ _ h1 hQ1
      refine ⟨π0 ++ π2, rs', M', b', δ', v1 ++ v4, fun π => ?_, allP_app.2 ⟨hv1, hv4⟩, hk⟩
      rcases hg with ⟨hg, hok, rfl, rfl, rfl⟩ | ⟨j, want, hg, ht, hd⟩
      · cases hok
      · simp only [evD, fS_eq, hg, if_pos ht, List.append_assoc, hd, h4]

def evMT (Γ : Tab) (wr : Bool) (tb : FuncId → Option Fun) (all : List Oper) (bs : List Nat) (fr : List AV) (M : List Blk) (s : Nat) (K : List AV → List Blk → Option Prop) : Option Prop :=
  match all[s]? with
  | some o => (match o.op with
    | .store t x y => evDT Γ wr tb all bs fr M.length (all.set s (dum o)) 0 [] M [] [] fun rs M' bn δ => (match evE all bs fr rs δ s M'.length x with
        | .pw id σ => if (decide (Γ.sg t = σ ∧ σ ≠ .none) && isSt o && midOk bs all M.length bn id s) = true then (match storeW M' id σ (evE all bs fr rs δ s M'.length y) with
          | some M2 => (match M2[id]? with
            | some (.c _ _) => fL (frEnd all fr rs δ) fun fr => fM M2 fun M2 => K fr M2
            | _ => .none)
          | .none => .none) else .none
        | _ => .none)
    | _ => .none)
  | .none => .none

theorem evMT_some {wr : Bool} {tb : FuncId → Option Fun} {all : List Oper} {bs : List Nat} {fr : List AV} {M : List Blk} {s : Nat} {K : List AV → List Blk → Option Prop} {Q : Prop}
    (h : evMT Γ wr tb all bs fr M s K = some Q) (hQ : Q) : ∃ π1 fr' M' v, (∀ π, evM Γ wr tb all bs fr M s (π1 ++ π) = some (fr', M', π, v)) ∧ allP v ∧ ∃ Q', K fr' M' = some Q' ∧ Q' := by
  unfold evMT at h
  split at h
  case h_2 => cases h
  rename_i o ho
  split at h
  case h_2 => cases h
  rename_i t x y hop
  obtain ⟨π1, rs, M1, b1, δ1, v, h1, hv, Q1, h2, hQ1⟩ := evDT_some _ _ _ _ _ _ _ h hQ
  split at h2
  case h_2 => cases h2
  rename_i id σ hx
  split at h2
  case isFalse => cases h2
  rename_i hck
  split at h2
  case h_2 => cases h2
  rename_i M2 hs
  split at h2
  case h_2 => cases h2
  rename_i τ xs hM2
  simp only [fL_eq, fM_eq] at h2
  refine ⟨π1, _, M2, v, fun π => ?_, hv, Q1, h2, hQ1⟩
  unfold evM
  rw [ho]
  dsimp only
  rw [hop]
  simp only [h1, hx]
  rw [if_pos hck, hs]
  simp only [hM2, fL_eq, fM_eq, fP_eq]

def evRT (Γ : Tab) (wr : Bool) (tb : FuncId → Option Fun) (all : List Oper) (fr : List AV) (M : List Blk) (K : List AV → List Blk → Option Prop) : Option Prop :=
  fBigs (bef all []) fun bs =>
  if (once all && backOk all 0 && dstOk fr.length all && decide (all.length ≤ 1000)) = true then
    (match isTail all with
    | true => evDT Γ wr tb all bs fr M.length all.dropLast 0 [] M [] [] fun rs M' _ δ =>
        if ((List.range (all.length - 1)).all fun k => Nat.testBit (bs.getD (all.length - 1) 0) k) = true then
          fL (frEnd all.dropLast fr rs δ) fun fr => fM M' fun M' =>
          (match all.getLast? with
          | some o => (match evO Γ wr tb M' (evA fr) o.op with
            | some (_, M'', v') => fM M'' fun M'' => conjO v' (K fr M'')
            | .none => .none)
          | .none => .none)
        else .none
    | false => (match midSt all 0 with
      | some s => evMT Γ wr tb all bs fr M s K
      | .none => evDT Γ wr tb all bs fr M.length all 0 [] M [] [] fun rs M' _ δ => fL (frEnd all fr rs δ) fun fr => fM M' fun M' => K fr M'))
  else .none

theorem evRT_some {wr : Bool} {tb : FuncId → Option Fun} {all : List Oper} {fr : List AV} {M : List Blk} {K : List AV → List Blk → Option Prop} {Q : Prop}
    (h : evRT Γ wr tb all fr M K = some Q) (hQ : Q) : ∃ π1 fr' M' v, (∀ π, evR Γ wr tb all fr M (π1 ++ π) = some (fr', M', π, v)) ∧ allP v ∧ ∃ Q', K fr' M' = some Q' ∧ Q' := by
  unfold evRT at h
  rw [fBigs_eq] at h
  split at h
  case isFalse => cases h
  rename_i hck
  split at h
  · rename_i htl
    obtain ⟨π1, rs, M1, b1, δ1, v, h1, hv, Q1, h2, hQ1⟩ := evDT_some _ _ _ _ _ _ _ h hQ
    split at h2
    case isFalse => cases h2
    rename_i hc2
    simp only [fL_eq, fM_eq] at h2
    split at h2
    · rename_i o ho
      split at h2
      · rename_i r M2 v' he
        obtain ⟨hv', Q2, h3, hQ2⟩ := conjO_some h2 hQ1
        refine ⟨π1, _, M2, v ++ v', fun π => ?_, allP_app.2 ⟨hv, hv'⟩, Q2, h3, hQ2⟩
        unfold evR
        rw [fBigs_eq, if_pos hck, htl]
        simp only [h1, if_pos hc2, fL_eq, fM_eq, fP_eq, ho, he]
      · cases h2
    · cases h2
  · rename_i htl
    split at h
    · rename_i s hs
      obtain ⟨π1, fr', M', v, h1, hv, hk⟩ := evMT_some h hQ
      refine ⟨π1, fr', M', v, fun π => ?_, hv, hk⟩
      unfold evR
      rw [fBigs_eq, if_pos hck, htl]
      simp only [hs, h1]
    rename_i hs
    obtain ⟨π1, rs, M1, b1, δ1, v, h1, hv, Q1, h2, hQ1⟩ := evDT_some _ _ _ _ _ _ _ h hQ
    simp only [fL_eq, fM_eq] at h2
    refine ⟨π1, _, M1, v, fun π => ?_, hv, Q1, h2, hQ1⟩
    unfold evR
    rw [fBigs_eq, if_pos hck, htl]
    simp only [hs, h1, fL_eq, fM_eq, fP_eq]

def condT (fr : List AV) (K : Bool → List AV → Option Prop) : Operand → Option Prop
  | .tmp t => decT fr t K
  | .const (.bool b) => K b fr
  | _ => .none

theorem condT_some {fr : List AV} {K : Bool → List AV → Option Prop} {x : Operand} {Q : Prop} (h : condT fr K x = some Q) (hQ : Q) :
    ∃ π1 bit fr' v, (∀ π, condP fr (π1 ++ π) x = some (bit, fr', π, v)) ∧ allP v ∧ ∃ Q', K bit fr' = some Q' ∧ Q' := by
  unfold condT at h
  split at h
  · exact decT_some h hQ
  · exact ⟨[], _, fr, [], fun π => rfl, trivial, Q, h, hQ⟩
  · cases h

def retT (Γ : Tab) (z : Bool) (res : List ResultVar) (R : AV → List Blk → Prop) (fr : List AV) (M : List Blk) : Option Prop :=
  match evResL Γ fr M res with
  | some rs => (match frzB z rs M with
    | some (rs, M) => (match tupAV rs with
      | some r => fAV r fun r => fM M fun M => some (R r M)
      | .none => .none)
    | .none => .none)
  | .none => .none

/-- From here on by hand. -/
structure Lf (p : Prop) : Prop where
  get : p

def tree (P : Program) (Γ : Tab) (z wr : Bool) (tb : FuncId → Option Fun) (fn : FuncId) (m : Nat) (res : List ResultVar) (R : AV → List Blk → Prop) : Nat → List Item → List AV → List Blk → Option Prop
  | 0, _, _, _ => .none
  | n + 1, todo, fr, M => match todo with
    | [] => retT Γ z res R fr M
    | .inLoop c :: k => some (Lf (Goes P fn m (.code c :: .inLoop c :: k) fr M R))
    | .inBlock _ :: k => tree P Γ z wr tb fn m res R n k fr M
    | .code c :: k => match c with
      | .ret => retT Γ z res R fr M
      | .loop c => some (Lf (Goes P fn m (.code c :: .inLoop c :: k) fr M R))
      | .skip => tree P Γ z wr tb fn m res R n k fr M
      | .label _ => tree P Γ z wr tb fn m res R n k fr M
      | .seq x y => tree P Γ z wr tb fn m res R n (.code x :: .code y :: k) fr M
      | .block id c => tree P Γ z wr tb fn m res R n (.code c :: .inBlock id :: k) fr M
      | .exit id => (match exitTo id k with
        | some k' => tree P Γ z wr tb fn m res R n k' fr M
        | .none => .none)
      | .goto l => (match gotoIn l k with
        | some k' => tree P Γ z wr tb fn m res R n k' fr M
        | .none => .none)
      | .cond x c d => condT fr (fun bit fr => match bit with
        | true => tree P Γ z wr tb fn m res R n (.code c :: k) fr M
        | false => tree P Γ z wr tb fn m res R n (.code d :: k) fr M) x
      | .region _ ops true => evRT Γ wr tb ops.toList fr M fun fr M => tree P Γ z wr tb fn m res R n k fr M
      | .region _ ops false => evOpsT Γ wr tb ops ops.toList fr M fun fr M => tree P Γ z wr tb fn m res R n k fr M
      | _ => .none
    | _ => .none

theorem retT_sound (H : TabOk P Γ) {z : Bool} {fn : FuncId} {m : Nat} {R : AV → List Blk → Prop} {f : Func} (hf : P.funcs[fn]? = some f) {fr : List AV} {M : List Blk} {Q : Prop} (h : retT Γ z f.results.toList R fr M = some Q) (hQ : Q) :
    (∀ k, Goes P fn m (.code .ret :: k) fr M R) ∧ Goes P fn m [] fr M R := by
  unfold retT at h
  split at h
  · rename_i rs h1
    split at h
    · rename_i rs' M' h2
      split at h
      · rename_i r h3
        simp only [fAV_eq, fM_eq] at h
        cases h
        exact Goes.retZ H z hf h1 h2 h3 hQ
      · cases h
    · cases h
  · cases h

theorem tree_sound (H : TabOk P Γ) {tb : FuncId → Option Fun} (htb : TbOk P tb) {z wr : Bool} {fn : FuncId} {m : Nat} {R : AV → List Blk → Prop} {f : Func} (hf : P.funcs[fn]? = some f) : ∀ (n : Nat) (todo : List Item) (fr : List AV) (M : List Blk) (Q : Prop),
    tree P Γ z wr tb fn m f.results.toList R n todo fr M = some Q → Q → Goes P fn m todo fr M R := by
  intro n
  induction n with
  | zero => intro todo fr M Q h; cases h
  | succ n ih =>
    intro todo fr M Q h hQ
    unfold tree at h
    split at h
    · exact (retT_sound H hf h hQ).2
    · cases h; exact hQ.get.step fun b a cs w => step_inLoop
    · exact (ih _ _ _ _ h hQ).step fun b a cs w => step_inBlock
    · split at h
      · exact (retT_sound H hf h hQ).1 _
      · cases h; exact hQ.get.step fun b a cs w => step_loop
      · exact (ih _ _ _ _ h hQ).step fun b a cs w => step_skip
      · exact (ih _ _ _ _ h hQ).step fun b a cs w => step_label
      · exact (ih _ _ _ _ h hQ).step fun b a cs w => step_seq
      · exact (ih _ _ _ _ h hQ).step fun b a cs w => step_block
      · split at h
        · rename_i he; exact (ih _ _ _ _ h hQ).step fun b a cs w => step_exit he
        · cases h
      · split at h
        · rename_i he; exact (ih _ _ _ _ h hQ).step fun b a cs w => step_goto he
        · cases h
      · obtain ⟨π1, bit, fr', v, h1, hv, Q', h2, hQ'⟩ := condT_some h hQ
        have h1' := h1 []
        refine Goes.cond h1' hv ?_
        cases bit
        · exact ih _ _ _ _ h2 hQ'
        · exact ih _ _ _ _ h2 hQ'
      · obtain ⟨π1, fr', M', v, h1, hv, Q', h2, hQ'⟩ := evRT_some h hQ
        have h1' := h1 []
        refine Goes.region (fun ρ a w hF hM => ?_) (ih _ _ _ _ h2 hQ')
        rw [List.append_nil] at h1'
        exact evR_sound H htb hF hM h1' hv fun a' w' ρ' g1 g2 g3 => ⟨rfl, ρ', g1, g2, g3⟩
      · obtain ⟨π1, fr', M', v, h1, hv, Q', h2, hQ'⟩ := evOpsT_some _ _ _ _ h hQ
        have h1' := h1 []
        refine Goes.region (fun ρ a w hF hM => ?_) (ih _ _ _ _ h2 hQ')
        exact wp_region_list (evOps_sound H htb _ ρ fr M _ a w _ _ _ _ hF hM h1' hv fun a' w' ρ' g1 g2 g3 => ⟨rfl, ρ', g1, g2, g3⟩)
      · cases h
    · cases h

/-- The rest of a body, both ways at each open test. -/
theorem Goes.tree (H : TabOk P Γ) {tb : FuncId → Option Fun} (htb : TbOk P tb) (n : Nat) (z wr : Bool) {fn : FuncId} {m : Nat} {R : AV → List Blk → Prop} {f : Func} (hf : P.funcs[fn]? = some f) {todo : List Item} {fr : List AV} {M : List Blk} {Q : Prop}
    (h : Eng.tree P Γ z wr tb fn m f.results.toList R n todo fr M = some Q) (hQ : Q) : Goes P fn m todo fr M R := tree_sound H htb hf n _ _ _ _ h hQ

end Go.Eng
