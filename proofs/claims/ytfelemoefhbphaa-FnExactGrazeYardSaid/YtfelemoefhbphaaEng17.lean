/- The engine, part 17: what a function returns. No conditions. -/
import Derived.Test.YtfelemoefhbphaaEng16
namespace Go.Eng
open Go Go.RowKit
variable {P : Program} {Γ : Tab} {fn : FuncId} {m : Nat} {R : AV → List Blk → Prop}

def resOf (tmps : Array Value) : ResultVar → Sem Value
  | .tmp t => pure (tmps.getD t undef)
  | .cell y t => do loadVar t (← asAddr (tmps.getD y undef))

theorem results_eq (f : Func) (tmps : Array Value) : results f tmps = (do
    let vs ← f.results.mapM (resOf tmps)
    pure (if h : vs.size = 1 then vs[0] else .tuple vs)) := rfl

theorem evResL_sound (H : TabOk P Γ) {ρ : Rho} {fr : List AV} {M : List Blk} {a : Act} {w : World} (hF : FRel ρ M.length fr a) (hM : MRel ρ M w) :
    ∀ {l : List ResultVar} {rs : List AV}, evResL Γ fr M l = some rs →
    ∃ vs, (l.mapM (resOf a.tmps)).run P w = .ok vs w ∧ Dens ρ rs vs ∧ ∀ r ∈ rs, ∀ i ∈ r.ids, i < M.length := by
  intro l
  induction l with
  | nil => intro rs h; cases h; exact ⟨[], by simp [List.mapM_nil], trivial, fun r hr => by cases hr⟩
  | cons x l ih =>
    intro rs h
    simp only [evResL] at h
    split at h
    · rename_i r h1
      split at h
      · rename_i rs' h2
        rw [fAV_eq] at h
        cases h
        obtain ⟨v, hv, hd, hi⟩ := evRes1_sound H hF hM h1
        obtain ⟨vs, hvs, hds, his⟩ := ih h2
        refine ⟨v :: vs, ?_, ⟨hd, hds⟩, ?_⟩
        · rw [List.mapM_cons, Sem.run_bind]
          have hv' : (resOf a.tmps x).run P w = .ok v w := by
            rw [← hv]; cases x <;> rfl
          rw [hv']
          simp only [Result.andThen_ok]
          rw [Sem.run_bind, hvs]
          rfl
        · intro r' hr'
          rcases List.mem_cons.1 hr' with rfl | h'
          · exact hi
          · exact his r' h'
      · cases h
    · cases h

theorem tup_sound {ρ : Rho} {n : Nat} {rs : List AV} {vs : List Value} {r : AV} (h : tupAV rs = some r) (hd : Dens ρ rs vs) (hi : ∀ r ∈ rs, ∀ i ∈ r.ids, i < n) :
    Den ρ r (if h : vs.toArray.size = 1 then vs.toArray[0] else .tuple vs.toArray) ∧ ∀ i ∈ r.ids, i < n := by
  match rs, vs, hd with
  | [], [], _ => cases h; exact ⟨rfl, fun i hi => by cases hi⟩
  | [x], [v], hd => cases h; exact ⟨hd.1, hi r (by simp)⟩
  | [x, y], [v, u], hd =>
    cases h
    refine ⟨⟨v, u, rfl, hd.1, hd.2.1⟩, fun i h' => ?_⟩
    simp only [AV.ids, List.mem_append] at h'
    rcases h' with h' | h'
    · exact hi x (by simp) i h'
    · exact hi y (by simp) i h'
  | [x, y, z], [v, u, t], hd =>
    cases h
    refine ⟨⟨v, u, t, rfl, hd.1, hd.2.1, hd.2.2.1⟩, fun i h' => ?_⟩
    simp only [AV.ids, List.mem_append] at h'
    rcases h' with (h' | h') | h'
    · exact hi x (by simp) i h'
    · exact hi y (by simp) i h'
    · exact hi z (by simp) i h'
  | [x, y, z, q], [v, u, t, s], hd =>
    cases h
    refine ⟨⟨v, u, t, s, rfl, hd.1, hd.2.1, hd.2.2.1, hd.2.2.2.1⟩, fun i h' => ?_⟩
    simp only [AV.ids, List.mem_append] at h'
    rcases h' with ((h' | h') | h') | h'
    · exact hi x (by simp) i h'
    · exact hi y (by simp) i h'
    · exact hi z (by simp) i h'
    · exact hi q (by simp) i h'
  | _ :: _ :: _ :: _ :: _ :: _, _, _ => cases h

theorem results_sound (H : TabOk P Γ) {ρ : Rho} {fr : List AV} {M : List Blk} {a : Act} {w : World} (hF : FRel ρ M.length fr a) (hM : MRel ρ M w) {f : Func} {rs : List AV} {r : AV}
    (h : evResL Γ fr M f.results.toList = some rs) (ht : tupAV rs = some r) :
    ∃ v, (results f a.tmps).run P w = .ok v w ∧ Den ρ r v ∧ ∀ i ∈ r.ids, i < M.length := by
  obtain ⟨vs, hvs, hd, hi⟩ := evResL_sound H hF hM h
  obtain ⟨h1, h2⟩ := tup_sound ht hd hi
  refine ⟨_, ?_, h1, h2⟩
  rw [results_eq, Array.mapM_eq_mapM_toList, Sem.run_bind]
  have : ((List.toArray <$> List.mapM (resOf a.tmps) f.results.toList).run P w) = .ok vs.toArray w := by
    rw [← bind_pure_comp, Sem.run_bind, hvs]; rfl
  rw [this]
  rfl

theorem Goes.ret (H : TabOk P Γ) {f : Func} (hf : P.funcs[fn]? = some f) {k : List Item} {fr : List AV} {M : List Blk} {rs : List AV} {r : AV}
    (h : evResL Γ fr M f.results.toList = some rs) (ht : tupAV rs = some r) (hR : R r M) : Goes P fn m (.code .ret :: k) fr M R := by
  intro ρ a w b cs hm0 hb hk hF hd hM
  obtain ⟨v, h1, h2, h3⟩ := results_sound H hF hM h ht
  exact ⟨v, w, _, ρ, r, M, .one step_ret, hb, ⟨rfl, hd, hk, f, by rw [← hb] at hf; exact hf, h1⟩, hR, h2, AfterM.refl hm0 hM, h3⟩

theorem Goes.fall (H : TabOk P Γ) {f : Func} (hf : P.funcs[fn]? = some f) {fr : List AV} {M : List Blk} {rs : List AV} {r : AV}
    (h : evResL Γ fr M f.results.toList = some rs) (ht : tupAV rs = some r) (hR : R r M) : Goes P fn m [] fr M R := by
  intro ρ a w b cs hm0 hb hk hF hd hM
  obtain ⟨v, h1, h2, h3⟩ := results_sound H hF hM h ht
  exact ⟨v, w, _, ρ, r, M, .one step_end, hb, ⟨rfl, hd, hk, f, by rw [← hb] at hf; exact hf, h1⟩, hR, h2, AfterM.refl hm0 hM, h3⟩

/-- What is not needed any more is forgotten. -/
def same1 : AV → AV → Prop
  | .b p, .d q => p = q
  | .b p, .b q => p = q
  | .i k m, .i k' n => k = k' ∧ m = n
  | .ag σ xs, .ag τ ys => σ = τ ∧ xs = ys
  | .fs σ xs, .fs τ ys => σ = τ ∧ xs = ys
  | .fz σ xs, .fz τ ys => σ = τ ∧ xs = ys
  | .ow id len σ e, .ow id' len' σ' e' => id = id' ∧ len = len' ∧ σ = σ' ∧ e = e'
  | .s x, .s y => x = y
  | x, y => x = y

def sameA : AV → AV → Prop
  | .t2 x y, .t2 x' y' => same1 x x' ∧ same1 y y'
  | .t3 x y z, .t3 x' y' z' => same1 x x' ∧ same1 y y' ∧ same1 z z'
  | .t4 x y z u, .t4 x' y' z' u' => same1 x x' ∧ same1 y y' ∧ same1 z z' ∧ same1 u u'
  | x, y => same1 x y

theorem same1_refl (x : AV) : same1 x x := by cases x <;> simp [same1]

theorem sameA_refl (x : AV) : sameA x x := by
  cases x <;> simp only [sameA, same1_refl, and_self] <;> exact same1_refl _

theorem same1_den {ρ : Rho} {x y : AV} {v : Value} (h : same1 x y) (hd : Den ρ y v) : Den ρ x v := by
  unfold same1 at h
  split at h
  · subst h; exact hd
  · subst h; exact hd
  · obtain ⟨rfl, rfl⟩ := h; exact hd
  · obtain ⟨rfl, rfl⟩ := h; exact hd
  · obtain ⟨rfl, rfl⟩ := h; exact hd
  · obtain ⟨rfl, rfl⟩ := h; exact hd
  · obtain ⟨rfl, rfl, rfl, rfl⟩ := h; exact hd
  · subst h; exact hd
  · subst h; exact hd

theorem same1_ids {x y : AV} (h : same1 x y) : x.ids = y.ids := by
  unfold same1 at h
  split at h
  · rfl
  · rfl
  · rfl
  · rfl
  · rfl
  · rfl
  · obtain ⟨rfl, -⟩ := h; rfl
  · rfl
  · rw [h]

theorem sameA_den {ρ : Rho} {x y : AV} {v : Value} (h : sameA x y) (hd : Den ρ y v) : Den ρ x v := by
  unfold sameA at h
  split at h
  · obtain ⟨a, b, e, h1, h2⟩ := hd; exact ⟨a, b, e, same1_den h.1 h1, same1_den h.2 h2⟩
  · obtain ⟨a, b, c, e, h1, h2, h3⟩ := hd; exact ⟨a, b, c, e, same1_den h.1 h1, same1_den h.2.1 h2, same1_den h.2.2 h3⟩
  · obtain ⟨a, b, c, d, e, h1, h2, h3, h4⟩ := hd; exact ⟨a, b, c, d, e, same1_den h.1 h1, same1_den h.2.1 h2, same1_den h.2.2.1 h3, same1_den h.2.2.2 h4⟩
  · exact same1_den h hd

theorem sameA_ids {x y : AV} (h : sameA x y) : x.ids = y.ids := by
  unfold sameA at h
  split at h
  · simp only [AV.ids]; rw [same1_ids h.1, same1_ids h.2]
  · simp only [AV.ids]; rw [same1_ids h.1, same1_ids h.2.1, same1_ids h.2.2]
  · simp only [AV.ids]; rw [same1_ids h.1, same1_ids h.2.1, same1_ids h.2.2.1, same1_ids h.2.2.2]
  · exact same1_ids h

def leA : AV → AV → Prop
  | .any, _ => True
  | x, y => sameA x y

def leF : List AV → List AV → Prop
  | [], [] => True
  | x :: l, y :: l' => leA x y ∧ leF l l'
  | _, _ => False

def leB : Blk → Blk → Prop
  | .dead, _ => True
  | x, y => x = y

def leM : List Blk → List Blk → Prop
  | [], [] => True
  | x :: l, y :: l' => leB x y ∧ leM l l'
  | _, _ => False

theorem leF_len : ∀ {l l' : List AV}, leF l l' → l.length = l'.length
  | [], [], _ => rfl
  | _ :: _, _ :: _, h => by simp [leF_len h.2]
  | [], _ :: _, h => h.elim
  | _ :: _, [], h => h.elim

theorem leM_len : ∀ {l l' : List Blk}, leM l l' → l.length = l'.length
  | [], [], _ => rfl
  | _ :: _, _ :: _, h => by simp [leM_len h.2]
  | [], _ :: _, h => h.elim
  | _ :: _, [], h => h.elim

theorem leF_get : ∀ {l l' : List AV}, leF l l' → ∀ t, l.getD t .any = .any ∨ sameA (l.getD t .any) (l'.getD t .any)
  | [], [], _, _ => .inl rfl
  | x :: _, y :: _, h, 0 => by
    have := h.1
    simp only [List.getD_cons_zero]
    cases x
    case any => exact .inl rfl
    all_goals exact .inr this
  | _ :: _, _ :: _, h, t + 1 => by simpa using leF_get h.2 t
  | [], _ :: _, h, _ => h.elim
  | _ :: _, [], h, _ => h.elim

theorem leM_get : ∀ {l l' : List Blk}, leM l l' → ∀ (t : Nat) (b : Blk), l[t]? = some b → b = .dead ∨ l'[t]? = some b
  | x :: _, y :: _, h, 0, b, hb => by
    have := h.1
    simp only [List.getElem?_cons_zero, Option.some.injEq] at hb
    subst hb
    cases x <;> simp_all [leB]
  | _ :: _, _ :: _, h, t + 1, b, hb => by simpa using leM_get h.2 t b (by simpa using hb)
  | [], _, _, _, _, hb => by simp at hb
  | _ :: _, [], h, _, _, _ => h.elim

theorem leM_live {l l' : List Blk} (h : leM l l') {i : Nat} (hl : liveAt l i) : liveAt l' i := by
  obtain ⟨b, hb, hlv⟩ := hl
  rcases leM_get h i b hb with rfl | h'
  · cases hlv
  · exact ⟨b, h', hlv⟩

theorem After.weak {ρ : Rho} {M' M : List Blk} {w : World} (h : leM M' M) (hM : MRel ρ M w) : After ρ M M' w w ρ where
  ext := fun _ _ => rfl
  rel := {
    blk := fun id b hb => by
      rcases leM_get h id b hb with rfl | h'
      · trivial
      · exact hM.blk id b h'
    inj := fun i j hi hj e => hM.inj i j (leM_live h hi) (leM_live h hj) e
    cl := fun id vs hid x hx i hi => by
      rcases leM_get h id _ hid with h' | h'
      · cases h'
      · rw [leM_len h]; exact hM.cl id vs h' x hx i hi
    env := fun k o hk => ⟨(hM.env k o hk).1, fun i hi => (hM.env k o hk).2 i (leM_live h hi)⟩ }
  len := Nat.le_of_eq (leM_len h).symm
  dead := fun _ _ hl => leM_live h hl
  fresh := fun id hid hl => by have := (leM_live h hl).lt; omega
  frame := fun _ _ _ => rfl
  os := rfl
  tape := rfl
  output := rfl
  size := Nat.le_refl _
  fmono := ρ.le_refl
  fnew := fun _ _ h => .inl h

theorem Goes.weak {todo : List Item} {fr fr' : List AV} {M M' : List Blk} (hf : leF fr' fr) (hm : leM M' M) (g : Goes P fn m todo fr' M' R) : Goes P fn m todo fr M R := by
  intro ρ a w b cs hm0 hb hk hF hd hM
  have hA := After.weak hm hM
  have hF' : FRel ρ M'.length fr' a := by
    refine ⟨by rw [leF_len hf]; exact hF.size, fun t => ?_, fun t => ?_⟩
    · rcases leF_get hf t with h | h
      · rw [h]; trivial
      · exact sameA_den h (hF.den t)
    · rcases leF_get hf t with h | h
      · rw [h]; simp [AV.ids]
      · rw [sameA_ids h, leM_len hm]; exact hF.ids t
  obtain ⟨v, w', fr2, ρ', r, M2, hs, h1, h2, h3, h4, h5, h6⟩ := g ρ a w b cs (Nat.le_trans hm0 hA.len) hb hk hF' hd hA.rel
  exact ⟨v, w', fr2, ρ', r, M2, hs, h1, h2, h3, h4, hA.comp hm0 h5, h6⟩

/-- A loop's rule: a measure falls. -/
theorem Goes.loop {ι : Type} (μ : ι → Nat) (I : ι → Prop) {todo : List Item} {fr : ι → List AV} {M : ι → List Blk} {S : ι → AV → List Blk → Prop}
    (h : ∀ i, I i → (∀ j, I j → μ j < μ i → Goes P fn m todo (fr j) (M j) (S j)) → Goes P fn m todo (fr i) (M i) (S i)) : ∀ i, I i → Goes P fn m todo (fr i) (M i) (S i) := by
  intro i
  induction hn : μ i using Nat.strongRecOn generalizing i with
  | _ n ih =>
    intro hi
    exact h i hi fun j hj hlt => ih (μ j) (hn ▸ hlt) j rfl hj

theorem Goes.mono {todo : List Item} {fr : List AV} {M : List Blk} {R' : AV → List Blk → Prop} (hR : ∀ r M', R r M' → R' r M') (g : Goes P fn m todo fr M R) : Goes P fn m todo fr M R' := by
  intro ρ a w b cs hm0 hb hk hF hd hM
  obtain ⟨v, w', fr2, ρ', r, M2, hs, h1, h2, h3, h4, h5, h6⟩ := g ρ a w b cs hm0 hb hk hF hd hM
  exact ⟨v, w', fr2, ρ', r, M2, hs, h1, h2, hR _ _ h3, h4, h5, h6⟩

end Go.Eng
