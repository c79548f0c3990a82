/- The engine, part 16: the run of a body. No conditions. -/
import Derived.Test.YtfelemoefhbphaaEng15
namespace Go.Eng
open Go Go.RowKit
variable {P : Program} {Γ : Tab}

/-- What the rest of a run does to memory, of which the first m blocks are the caller's. -/
structure AfterM (m : Nat) (ρ : Rho) (M M' : List Blk) (w w' : World) (ρ' : Rho) : Prop where
  ext : ∀ id, id < m → ρ' id = ρ id
  rel : MRel ρ' M' w'
  len : m ≤ M'.length
  dead : ∀ id, id < m → liveAt M' id → liveAt M id
  fresh : ∀ id, m ≤ id → liveAt M' id → w.heap.size ≤ (ρ' id).blk ∨ ∃ i, liveAt M i ∧ (ρ' id).blk = (ρ i).blk
  frame : ∀ b, b < w.heap.size → (∀ id, liveAt M id → (ρ id).blk ≠ b) → w'.heap[b]? = w.heap[b]?
  os : w'.os = w.os
  tape : w'.tape = w.tape
  output : w'.output = w.output
  size : w.heap.size ≤ w'.heap.size
  fmono : ρ.le ρ'
  fnew : ∀ k o, ρ'.F k = some o → ρ.F k = some o ∨ w.heap.size ≤ k ∨ ∃ i, liveAt M i ∧ (ρ i).blk = k

theorem After.comp {m : Nat} {ρ ρ1 ρ2 : Rho} {M M1 M2 : List Blk} {w w1 w2 : World} (hm : m ≤ M.length) (h : After ρ M M1 w w1 ρ1) (k : AfterM m ρ1 M1 M2 w1 w2 ρ2) : AfterM m ρ M M2 w w2 ρ2 where
  ext := fun id hid => (k.ext id hid).trans (h.ext id (by omega))
  rel := k.rel
  len := k.len
  dead := fun id hid hl => h.dead id (by omega) (k.dead id hid hl)
  fresh := fun id hid hl => by
    have hold : ∀ i, liveAt M1 i → w.heap.size ≤ (ρ1 i).blk ∨ ∃ j, liveAt M j ∧ (ρ1 i).blk = (ρ j).blk := by
      intro i hl1
      by_cases hlt : i < M.length
      · exact .inr ⟨i, h.dead i hlt hl1, by rw [h.ext i hlt]⟩
      · rcases h.fresh i (by omega) hl1 with h1 | ⟨j, _, h1, h2⟩
        · exact .inl h1
        · exact .inr ⟨j, h1, h2⟩
    rcases k.fresh id hid hl with h1 | ⟨i, hl1, he⟩
    · exact .inl (Nat.le_trans h.size h1)
    · rw [he]; exact hold i hl1
  frame := fun b hb hn => by
    rw [k.frame b (Nat.lt_of_lt_of_le hb h.size) ?_, h.frame b hb hn]
    intro id hl e
    by_cases hlt : id < M.length
    · rw [h.ext id hlt] at e
      exact hn id (h.dead id hlt hl) e
    · rcases h.fresh id (by omega) hl with h1 | ⟨i, hi, hl1, he⟩
      · omega
      · exact hn i hl1 (by rw [← he, e])
  os := k.os.trans h.os
  tape := k.tape.trans h.tape
  output := k.output.trans h.output
  size := Nat.le_trans h.size k.size
  fmono := Rho.le_trans h.fmono k.fmono
  fnew := fun b o hb => by
    rcases k.fnew b o hb with h1 | h1 | ⟨i, h1, h2⟩
    · exact h.fnew b o h1
    · exact .inr (.inl (Nat.le_trans h.size h1))
    · by_cases hlt : i < M.length
      · rw [h.ext i hlt] at h2
        exact .inr (.inr ⟨i, h.dead i hlt h1, h2⟩)
      · rcases h.fresh i (by omega) h1 with h3 | ⟨j, _, h3, h4⟩
        · exact .inr (.inl (h2 ▸ h3))
        · exact .inr (.inr ⟨j, h3, by rw [← h4, h2]⟩)

theorem AfterM.refl {m : Nat} {ρ : Rho} {M : List Blk} {w : World} (hm : m ≤ M.length) (h : MRel ρ M w) : AfterM m ρ M M w w ρ :=
  ⟨fun _ _ => rfl, h, hm, fun _ _ h => h, fun id _ hl => .inr ⟨id, hl, rfl⟩, fun _ _ _ => rfl, rfl, rfl, rfl, Nat.le_refl _, ρ.le_refl, fun _ _ h => .inl h⟩

/-- From here the function goes on to return so. -/
def Goes (P : Program) (fn : FuncId) (m : Nat) (todo : List Item) (fr : List AV) (M : List Blk) (R : AV → List Blk → Prop) : Prop :=
  ∀ (ρ : Rho) (a : Act) (w : World) (b : Frame) (cs : List Frame), m ≤ M.length → b.fn = fn → b.kind = .normal → FRel ρ M.length fr a → a.defers = [] → MRel ρ M w →
    ∃ v w' fr' ρ' r M', Steps P (lone (b.at a todo) cs w) (lone fr' cs w') ∧ fr'.fn = fn ∧ fr'.leaving P w' (.returned v) ∧ R r M' ∧ Den ρ' r v ∧
      AfterM m ρ M M' w w' ρ' ∧ ∀ i ∈ r.ids, i < M'.length

variable {fn : FuncId} {m : Nat} {R : AV → List Blk → Prop}

theorem Goes.step {todo todo' : List Item} {fr : List AV} {M : List Blk}
    (h : ∀ (b : Frame) (a : Act) (cs : List Frame) (w : World), step P (lone (b.at a todo) cs w) = .next (lone (b.at a todo') cs w)) (g : Goes P fn m todo' fr M R) : Goes P fn m todo fr M R := by
  intro ρ a w b cs hm hb hk hF hd hM
  obtain ⟨v, w', fr', ρ', r, M', hs, hg⟩ := g ρ a w b cs hm hb hk hF hd hM
  exact ⟨v, w', fr', ρ', r, M', .head (h b a cs w) hs, hg⟩

def condP (fr : List AV) (π : List Bool) : Operand → Option (Bool × List AV × List Bool × List Prop)
  | .tmp t => decide1 fr t π
  | .const (.bool b) => some (b, fr, π, [])
  | _ => .none

def stp (Γ : Tab) (wr : Bool) (tb : FuncId → Option Fun) : List Item → List AV → List Blk → List Bool → Option (List Item × List AV × List Blk × List Bool × List Prop)
  | .inBlock _ :: k, fr, M, π => some (k, fr, M, π, [])
  | .code c :: k, fr, M, π => match c with
    | .skip => some (k, fr, M, π, [])
    | .label _ => some (k, fr, M, π, [])
    | .seq x y => some (.code x :: .code y :: k, fr, M, π, [])
    | .block id c => some (.code c :: .inBlock id :: k, fr, M, π, [])
    | .exit id => match exitTo id k with
      | some k' => some (k', fr, M, π, [])
      | .none => .none
    | .goto l => match gotoIn l k with
      | some k' => some (k', fr, M, π, [])
      | .none => .none
    | .cond x c d => match condP fr π x with
      | some (true, fr, π, v) => some (.code c :: k, fr, M, π, v)
      | some (false, fr, π, v) => some (.code d :: k, fr, M, π, v)
      | .none => .none
    | .region _ ops true => match evR Γ wr tb ops.toList fr M π with
      | some (fr, M, π, v) => some (k, fr, M, π, v)
      | .none => .none
    | .region _ ops false => match evOps Γ wr tb ops ops.toList fr M π with
      | some (fr, M, π, v) => some (k, fr, M, π, v)
      | .none => .none
    | _ => .none
  | _, _, _, _ => .none

theorem Goes.region {id : Nat} {ops : Array Oper} {draw : Bool} {k : List Item} {fr fr' : List AV} {M M' : List Blk}
    (h : ∀ (ρ : Rho) (a : Act) (w : World), FRel ρ M.length fr a → MRel ρ M w →
      (Code.region id ops draw).wp P (fun e a' w' => e = .normal ∧ ∃ ρ', After ρ M M' w w' ρ' ∧ FRel ρ' M'.length fr' a' ∧ a'.defers = a.defers) a w)
    (g : Goes P fn m k fr' M' R) : Goes P fn m (.code (.region id ops draw) :: k) fr M R := by
  intro ρ a w b cs hm hb hk hF hd hM
  obtain ⟨e, a', w1, ⟨rfl, ρ1, hA, hF', hd'⟩, harr⟩ := h ρ a w hF hM b k cs
  obtain ⟨v, w', fr2, ρ', r, M2, hs, h1, h2, h3, h4, h5, h6⟩ := g ρ1 a' w1 b cs (Nat.le_trans hm hA.len) hb hk hF' (hd'.trans hd) hA.rel
  exact ⟨v, w', fr2, ρ', r, M2, .trans harr hs, h1, h2, h3, h4, hA.comp hm h5, h6⟩

theorem condP_sound {ρ : Rho} {n : Nat} {fr fr' : List AV} {a : Act} {x : Operand} {π π' : List Bool} {bit : Bool} {v : List Prop} (hF : FRel ρ n fr a) (h : condP fr π x = some (bit, fr', π', v)) (hv : allP v) :
    FRel ρ n fr' a ∧ a.eval x = .bool bit := by
  unfold condP at h
  split at h
  · obtain ⟨h1, h2, -⟩ := decide1_sound hF h hv
    refine ⟨h1, ?_⟩
    rename_i t
    simp only [Act.eval]
    rw [Array.getD_eq_getD_getElem?, h2]; rfl
  · cases h; exact ⟨hF, rfl⟩
  · cases h

theorem Goes.cond {x : Operand} {c d : Code} {k : List Item} {fr fr' : List AV} {M : List Blk} {π π' : List Bool} {bit : Bool} {v : List Prop}
    (h : condP fr π x = some (bit, fr', π', v)) (hv : allP v) (g : Goes P fn m (.code (if bit then c else d) :: k) fr' M R) : Goes P fn m (.code (.cond x c d) :: k) fr M R := by
  intro ρ a w b cs hm hb hk hF hd hM
  obtain ⟨hF', he⟩ := condP_sound hF h hv
  obtain ⟨v, w', fr2, ρ', r, M2, hs, hg⟩ := g ρ a w b cs hm hb hk hF' hd hM
  exact ⟨v, w', fr2, ρ', r, M2, .head (step_cond he) hs, hg⟩

theorem stp_sound (H : TabOk P Γ) {tb : FuncId → Option Fun} (htb : TbOk P tb) {wr : Bool} {todo todo' : List Item} {fr fr' : List AV} {M M' : List Blk} {π π' : List Bool} {v : List Prop}
    (h : stp Γ wr tb todo fr M π = some (todo', fr', M', π', v)) (hv : allP v) (g : Goes P fn m todo' fr' M' R) : Goes P fn m todo fr M R := by
  unfold stp at h
  split at h
  · cases h; exact g.step fun b a cs w => step_inBlock
  · split at h
    · cases h; exact g.step fun b a cs w => step_skip
    · cases h; exact g.step fun b a cs w => step_label
    · cases h; exact g.step fun b a cs w => step_seq
    · cases h; exact g.step fun b a cs w => step_block
    · split at h
      · rename_i he; cases h; exact g.step fun b a cs w => step_exit he
      · cases h
    · split at h
      · rename_i he; cases h; exact g.step fun b a cs w => step_goto he
      · cases h
    · split at h
      · rename_i he; cases h; exact Goes.cond he hv g
      · rename_i he; cases h; exact Goes.cond he hv g
      · cases h
    · split at h
      · rename_i he
        cases h
        refine Goes.region (fun ρ a w hF hM => ?_) g
        exact evR_sound H htb hF hM he hv fun a' w' ρ' h1 h2 h3 => ⟨rfl, ρ', h1, h2, h3⟩
      · cases h
    · split at h
      · rename_i he
        cases h
        refine Goes.region (fun ρ a w hF hM => ?_) g
        exact wp_region_list (evOps_sound H htb _ ρ fr M π a w _ _ _ _ hF hM he hv fun a' w' ρ' h1 h2 h3 => ⟨rfl, ρ', h1, h2, h3⟩)
      · cases h
    · cases h
  · cases h

def run (Γ : Tab) (wr : Bool) (tb : FuncId → Option Fun) : Nat → List Item → List AV → List Blk → List Bool → List Prop → Option (List Item × List AV × List Blk × List Prop)
  | 0, todo, fr, M, _, vs => some (todo, fr, M, vs)
  | n + 1, todo, fr, M, π, vs => match todo with
    | [] => some ([], fr, M, vs)
    | .code .ret :: k => some (.code .ret :: k, fr, M, vs)
    | .code (.loop c) :: k => some (.code c :: .inLoop c :: k, fr, M, vs)
    | .inLoop c :: k => some (.code c :: .inLoop c :: k, fr, M, vs)
    | x :: k => match stp Γ wr tb (x :: k) fr M π with
      | some (todo', fr', M', π', v) => fP (vs ++ v) fun vs => run Γ wr tb n todo' fr' M' π' vs
      | .none => .none

theorem run_sound (H : TabOk P Γ) {tb : FuncId → Option Fun} (htb : TbOk P tb) {wr : Bool} : ∀ (n : Nat) {todo todo' : List Item} {fr fr' : List AV} {M M' : List Blk} {π : List Bool} {vs vs' : List Prop},
    run Γ wr tb n todo fr M π vs = some (todo', fr', M', vs') → allP vs' → (Goes P fn m todo' fr' M' R → Goes P fn m todo fr M R) ∧ allP vs := by
  intro n
  induction n with
  | zero => intro todo todo' fr fr' M M' π vs vs' h hv; cases h; exact ⟨id, hv⟩
  | succ n ih =>
    intro todo todo' fr fr' M M' π vs vs' h hv
    unfold run at h
    split at h
    · cases h; exact ⟨id, hv⟩
    · cases h; exact ⟨id, hv⟩
    · cases h; exact ⟨fun g => g.step fun b a cs w => step_loop, hv⟩
    · cases h; exact ⟨fun g => g.step fun b a cs w => step_inLoop, hv⟩
    · split at h
      · rename_i he
        rw [fP_eq] at h
        obtain ⟨h1, h2⟩ := ih h hv
        rw [allP_app] at h2
        exact ⟨fun g => stp_sound H htb he h2.2 (h1 g), h2.1⟩
      · cases h

theorem Goes.run (H : TabOk P Γ) {tb : FuncId → Option Fun} (htb : TbOk P tb) (n : Nat) (wr : Bool) (π : List Bool) {todo todo' : List Item} {fr fr' : List AV} {M M' : List Blk} {vs : List Prop}
    (h : Eng.run Γ wr tb n todo fr M π [] = some (todo', fr', M', vs)) (hv : allP vs) (g : Goes P fn m todo' fr' M' R) : Goes P fn m todo fr M R :=
  (run_sound H htb n h hv).1 g

def evRes1 (Γ : Tab) (fr : List AV) (M : List Blk) : ResultVar → Option AV
  | .tmp t => some (fr.getD t .any)
  | .cell x t => match fr.getD x .any with
    | .pw id σ => if Γ.sg t = σ ∧ σ ≠ .none then loadW M id σ else .none
    | .p id off σ => if Γ.sg t = σ ∧ σ ≠ .none then loadAV M id off σ else .none
    | _ => .none

def evResL (Γ : Tab) (fr : List AV) (M : List Blk) : List ResultVar → Option (List AV)
  | [] => some []
  | x :: l => match evRes1 Γ fr M x with
    | some r => match evResL Γ fr M l with
      | some rs => fAV r fun r => some (r :: rs)
      | .none => .none
    | .none => .none

def tupAV : List AV → Option AV
  | [] => some (.v (.tuple #[]))
  | [x] => some x
  | [x, y] => some (.t2 x y)
  | [x, y, z] => some (.t3 x y z)
  | [x, y, z, u] => some (.t4 x y z u)
  | _ => .none

theorem evRes1_sound (H : TabOk P Γ) {ρ : Rho} {fr : List AV} {M : List Blk} {a : Act} {w : World} {x : ResultVar} {r : AV} (hF : FRel ρ M.length fr a) (hM : MRel ρ M w) (h : evRes1 Γ fr M x = some r) :
    ∃ v, (match x with
      | .tmp t => pure (a.tmps.getD t undef)
      | .cell y t => do loadVar t (← asAddr (a.tmps.getD y undef)) : Sem Value).run P w = .ok v w ∧ Den ρ r v ∧ ∀ i ∈ r.ids, i < M.length := by
  cases x with
  | tmp t => cases h; exact ⟨_, rfl, hF.den t, hF.ids t⟩
  | cell y t =>
    have hd := hF.den y
    simp only [evRes1] at h
    split at h
    · rename_i id σ e
      rw [e] at hd
      obtain ⟨hd, hp, hs⟩ := hd
      split at h
      · rename_i hc
        have hl := loadW_eq hM (hs) h
        obtain ⟨v, h1, h2⟩ := load_sound H hM hc.1 hc.2 hp hl
        exact ⟨v, by simp [hd, asAddr, h2], h1, load_ids hM hl⟩
      · cases h
    · rename_i id off σ e
      rw [e] at hd
      obtain ⟨hd, hp⟩ := hd
      split at h
      · rename_i hc
        obtain ⟨v, h1, h2⟩ := load_sound H hM hc.1 hc.2 hp h
        exact ⟨v, by simp [hd, asAddr, h2], h1, load_ids hM h⟩
      · cases h
    · cases h

end Go.Eng
