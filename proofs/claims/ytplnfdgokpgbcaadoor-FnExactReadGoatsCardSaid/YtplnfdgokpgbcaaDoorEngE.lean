/- The engine, texts 15 16 17 18 19. No conditions. -/
import Derived.Test.YtplnfdgokpgbcaaDoorEngD
/- The engine, part 15: a region whose order is open, whatever order is drawn; the end. No conditions. -/
namespace Go.Eng
open Go Go.RowKit
set_option linter.unusedSectionVars false
variable [Glob]
variable {P : Program} {Γ : Tab}

def cnt : Nat → (Nat → Bool) → Nat
  | 0, _ => 0
  | n + 1, p => cnt n p + (if p n = true then 0 else 1)

theorem cnt_congr : ∀ (n : Nat) (p p' : Nat → Bool), (∀ k, k < n → p k = p' k) → cnt n p = cnt n p'
  | 0, _, _, _ => rfl
  | n + 1, p, p', h => by simp only [cnt]; rw [cnt_congr n p p' (fun k hk => h k (by omega)), h n (by omega)]

theorem cnt_set : ∀ (n i : Nat) (p p' : Nat → Bool), i < n → p i = false → (∀ k, p' k = true ↔ (p k = true ∨ k = i)) → cnt n p' + 1 = cnt n p
  | 0, _, _, _, h, _, _ => by omega
  | n + 1, i, p, p', hi, hp, h => by
    have he : ∀ k, k ≠ i → p' k = p k := fun k hk => by
      rw [Bool.eq_iff_iff, h]; exact ⟨fun h => h.resolve_right hk, .inl⟩
    by_cases hin : i = n
    · subst hin
      simp only [cnt]
      rw [cnt_congr i p' p (fun k hk => he k (by omega)), hp, (h i).2 (.inr rfl)]
      simp
    · simp only [cnt]
      rw [he n (fun e => hin e.symm)]
      have := cnt_set n i p p' (by omega) hp h
      omega

theorem cnt_zero : ∀ (n : Nat) (p : Nat → Bool), cnt n p = 0 → ∀ k, k < n → p k = true
  | 0, _, _, _, h => by omega
  | n + 1, p, h, k, hk => by
    simp only [cnt] at h
    by_cases hkn : k = n
    · subst hkn
      by_cases hp : p k = true
      · exact hp
      · rw [if_neg hp] at h; omega
    · exact cnt_zero n p (by omega) k (by omega)

/-- Each edge leads back. -/
def backOk : List Oper → Nat → Bool
  | [], _ => true
  | o :: l, k => (o.after.toList.all fun e => !(Region.binds .any e) || decide (e.on < k)) && backOk l (k + 1)

theorem backOk_get : ∀ (l : List Oper) (k i : Nat) (o : Oper), backOk l k = true → l[i]? = some o → ∀ e ∈ o.after.toList, Region.binds .any e = true → e.on < k + i
  | [], _, _, _, _, h => by simp at h
  | o' :: l, k, 0, o, hb, h => by
    simp only [List.getElem?_cons_zero, Option.some.injEq] at h
    subst h
    simp only [backOk, Bool.and_eq_true, List.all_eq_true] at hb
    intro e he hbd
    have := hb.1 e he
    rw [hbd] at this
    simpa using this
  | o' :: l, k, i + 1, o, hb, h => by
    simp only [backOk, Bool.and_eq_true] at hb
    have := backOk_get l (k + 1) i o hb.2 (by simpa using h)
    intro e he hbd
    have := this e he hbd
    omega

theorem wrt_shift : ∀ (l : List Oper) (k : Nat) (t : Tmp), wrt l (k + 1) t = (wrt l k t).map (· + 1)
  | [], _, _ => rfl
  | o :: l, k, t => by
    simp only [wrt]
    cases o.dst with
    | none => exact wrt_shift l (k + 1) t
    | some d =>
      dsimp only
      split
      · rfl
      · exact wrt_shift l (k + 1) t

def setAll : List Oper → List AV → List AV → List AV
  | o :: l, r :: rs, fr => fS (setO fr o.dst r) fun fr => setAll l rs fr
  | _, _, fr => fr

theorem setAll_len : ∀ (l : List Oper) (rs fr : List AV), (setAll l rs fr).length = fr.length
  | [], _, _ => rfl
  | _ :: _, [], _ => rfl
  | o :: l, r :: rs, fr => by
    simp only [setAll, fS_eq]
    rw [setAll_len l rs]
    cases o.dst <;> simp [setO]

theorem getD_set {fr : List AV} {d t : Nat} {r : AV} : (fr.set d r).getD t .any = if d = t ∧ t < fr.length then r else fr.getD t .any := by
  rw [List.getD_eq_getElem?_getD, List.getD_eq_getElem?_getD, List.getElem?_set]
  by_cases hdt : d = t
  · subst hdt
    by_cases hl : d < fr.length
    · simp [hl]
    · simp [hl]
  · simp [hdt]

theorem setAll_get : ∀ (l : List Oper) (rs fr : List AV) (t : Tmp), once l = true → l.length ≤ rs.length → t < fr.length →
    (setAll l rs fr).getD t .any = match wrt l 0 t with | .none => fr.getD t .any | some j => rs.getD j .any
  | [], _, _, _, _, _, _ => rfl
  | _ :: _, [], _, _, _, h, _ => by simp at h
  | o :: l, r :: rs, fr, t, hu, hl, ht => by
    have hu2 : once l = true := by simp only [once, Bool.and_eq_true] at hu; exact hu.2
    have ih := setAll_get l rs (setO fr o.dst r) t hu2 (by simpa using hl) (by cases o.dst <;> simpa [setO] using ht)
    simp only [setAll, fS_eq]
    rw [ih]
    cases hd : o.dst with
    | none =>
      simp only [wrt, hd, wrt_shift, setO]
      cases wrt l 0 t with
      | none => rfl
      | some j => simp
    | some d =>
      simp only [wrt, hd, wrt_shift, setO]
      by_cases hdt : d = t
      · subst hdt
        rw [if_pos rfl]
        have hno : wrt l 0 d = .none := by
          cases hw : wrt l 0 d with
          | none => rfl
          | some j =>
            exfalso
            obtain ⟨-, o', ho', hd'⟩ := wrt_some l 0 j d hw
            simp only [once, Bool.and_eq_true] at hu
            have h1 := hu.1
            rw [hd] at h1
            have := List.all_eq_true.1 h1 o' (List.mem_of_getElem? ho')
            rw [hd'] at this
            simp at this
        rw [hno]
        simp only [List.getD_cons_zero]
        rw [getD_set, if_pos ⟨rfl, ht⟩]
      · rw [if_neg hdt]
        cases wrt l 0 t with
        | none => simp only [Option.map_none]; rw [getD_set, if_neg (fun h => hdt h.1)]
        | some j => simp

/-- The tests that were decided stand decided. -/
def decided (δ : List (Nat × Bool)) : List AV → Nat → List AV
  | [], _ => []
  | r :: rs, k => (match dget δ k with | some b => .d b | .none => r) :: decided δ rs (k + 1)

theorem decided_len (δ : List (Nat × Bool)) : ∀ (rs : List AV) (k : Nat), (decided δ rs k).length = rs.length
  | [], _ => rfl
  | r :: rs, k => by simp only [decided, List.length_cons, decided_len δ rs (k + 1)]

theorem decided_get (δ : List (Nat × Bool)) : ∀ (rs : List AV) (k j : Nat), j < rs.length → (decided δ rs k).getD j .any = match dget δ (k + j) with | some b => .d b | .none => rs.getD j .any
  | [], _, _, h => by simp at h
  | r :: rs, k, 0, _ => rfl
  | r :: rs, k, j + 1, h => by
    simp only [decided, List.getD_cons_succ]
    rw [decided_get δ rs (k + 1) j (by simpa using h), show k + 1 + j = k + (j + 1) from by omega]


theorem ready_mem {ops : Array Oper} {listed : Array Bool} {i : Nat} (h : i ∈ Region.ready .any ops listed) :
    ∃ o, ops[i]? = some o ∧ i < ops.size ∧ listed.getD i true = false ∧ ∀ e ∈ o.after.toList, Region.binds .any e = true → listed.getD e.on false = true := by
  unfold Region.ready at h
  rw [List.mem_filter, List.mem_range] at h
  obtain ⟨h1, h2⟩ := h
  simp only [Bool.and_eq_true, Bool.not_eq_true'] at h2
  obtain ⟨h2, h3⟩ := h2
  rw [Array.getElem?_eq_getElem h1] at h3
  refine ⟨ops[i], Array.getElem?_eq_getElem h1, h1, h2, fun e he hb => ?_⟩
  simp only [Option.map_some, Option.getD_some] at h3
  have h4 := (Array.all_eq_true'.1 h3) e (Array.mem_toList_iff.1 he)
  rw [hb] at h4
  simpa using h4

theorem ready_nil {ops : Array Oper} {listed : Array Bool} (hb : backOk ops.toList 0 = true) (hs : listed.size = ops.size) (h : Region.ready .any ops listed = []) : ∀ k, k < ops.size → listed.getD k false = true := by
  intro k
  induction k using Nat.strongRecOn with
  | _ k ih =>
    intro hk
    by_cases hl : listed.getD k false = true
    · exact hl
    · exfalso
      have : k ∈ Region.ready .any ops listed := by
        unfold Region.ready
        rw [List.mem_filter, List.mem_range]
        refine ⟨hk, ?_⟩
        have hkl : k < listed.size := by omega
        have h1 : listed.getD k true = false := by
          rw [Array.getD_eq_getD_getElem?, Array.getElem?_eq_getElem hkl] at hl ⊢
          simpa using hl
        rw [h1, Array.getElem?_eq_getElem hk]
        simp only [Bool.not_false, Bool.true_and, Option.map_some, Option.getD_some]
        rw [Array.all_eq_true']
        intro e he
        by_cases hbe : Region.binds .any e = true
        · have := backOk_get ops.toList 0 k ops[k] hb (by rw [Array.getElem?_toList]; exact Array.getElem?_eq_getElem hk) e (Array.mem_toList_iff.2 he) hbe
          rw [ih e.on (by omega) (by omega)]; simp
        · simp [hbe]
      rw [h] at this
      cases this

theorem listed_set {listed : Array Bool} {i : Nat} (hi : i < listed.size) (k : Nat) : (listed.setIfInBounds i true).getD k false = true ↔ (listed.getD k false = true ∨ k = i) := by
  rw [Array.getD_eq_getD_getElem?, Array.getD_eq_getD_getElem?, Array.getElem?_setIfInBounds]
  by_cases h : i = k
  · subst h; simp [hi]
  · rw [if_neg h]
    exact ⟨.inl, fun h' => h'.resolve_right (fun e => h e.symm)⟩

/-- The facts that make a region's one reading good for every order. -/
structure RegOK (Γ : Tab) (wr : Bool) (tb : FuncId → Option Fun) (all : Array Oper) (fr0 rs : List AV) (M0 Mn : List Blk) (bn : List Nat) (m : Nat) : Prop where
  once : once all.toList = true
  back : backOk all.toList 0 = true
  le : m ≤ all.size
  rsl : m ≤ rs.length
  mem : ∀ id, id < M0.length → Mn[id]? = M0[id]?
  mle : M0.length ≤ Mn.length
  bnl : bn.length = Mn.length - M0.length
  bnm : ∀ k, k < bn.length → bn.getD k big < m
  big : all.size ≤ big
  dst : ∀ o ∈ all.toList, ∀ d, o.dst = some d → d < fr0.length
  tailB : ∀ j, m ≤ j → j < all.size → ∀ k, k < m → Nat.testBit ((bef all.toList []).getD j 0) k = true
  fact : ∀ i o, i < m → all[i]? = some o → OpFact Γ wr tb all.toList (bef all.toList []) fr0 M0.length rs Mn bn i o

/-- What is left to know of an operation that has been. -/
def WeakAt (bs : List Nat) (n0 : Nat) (rs : List AV) (Mn : List Blk) (bn : List Nat) (i : Nat) : Prop :=
  ∃ want : Bool, (want = false → rs.getD i .any = .un ∧ ∀ m, bn.getD m big ≠ i) ∧
    (want = true → ∃ base len : Nat, base + len ≤ Mn.length ∧ (∀ m, bn.getD m big = i ↔ base ≤ n0 + m ∧ n0 + m < base + len) ∧
      (∀ id ∈ (rs.getD i .any).ids, idOk n0 bn (bs.getD i 0) i id = true ∧ id < base + len) ∧
      (∀ m vs, m < len → Mn[base + m]? = some (.r vs) → ∀ x ∈ vs, ∀ id ∈ x.ids, idOk n0 bn (bs.getD i 0) i id = true ∧ id < base + len))

structure RegW (all : Array Oper) (fr0 rs : List AV) (M0 Mn : List Blk) (bn : List Nat) (m : Nat) : Prop where
  once : once all.toList = true
  back : backOk all.toList 0 = true
  le : m ≤ all.size
  rsl : m ≤ rs.length
  mem : ∀ id, id < M0.length → ∀ vs, Mn[id]? = some (.r vs) → M0[id]? = some (.r vs)
  mle : M0.length ≤ Mn.length
  bnl : bn.length = Mn.length - M0.length
  bnm : ∀ k, k < bn.length → bn.getD k big < m
  big : all.size ≤ big
  dst : ∀ o ∈ all.toList, ∀ d, o.dst = some d → d < fr0.length
  fact : ∀ i, i < m → WeakAt (bef all.toList []) M0.length rs Mn bn i

theorem OpFact.weak {wr : Bool} {tb : FuncId → Option Fun} {all : List Oper} {bs : List Nat} {fr0 : List AV} {n0 : Nat} {rsn : List AV} {Mn : List Blk} {bn : List Nat} {i : Nat} {o : Oper}
    (h : OpFact Γ wr tb all bs fr0 n0 rsn Mn bn i o) : WeakAt bs n0 rsn Mn bn i := by
  obtain ⟨⟨want, -, hno, hyes⟩⟩ := h
  refine ⟨want, hno, fun hw => ?_⟩
  obtain ⟨base, news, Mk, E, vs, hb0, hb1, hkl, hget, hnw, hborn, hq, hv, hE1, hE2, hE3, hid, hrn, hcl⟩ := hyes hw
  exact ⟨base, news.length, hb1, hborn, hid, hrn⟩

theorem RegOK.weak {wr : Bool} {tb : FuncId → Option Fun} {all : Array Oper} {fr0 rs : List AV} {M0 Mn : List Blk} {bn : List Nat} {m : Nat} (h : RegOK Γ wr tb all fr0 rs M0 Mn bn m) : RegW all fr0 rs M0 Mn bn m where
  once := h.once
  back := h.back
  le := h.le
  rsl := h.rsl
  mem := fun id hid vs hv => by rw [← h.mem id hid]; exact hv
  mle := h.mle
  bnl := h.bnl
  bnm := h.bnm
  big := h.big
  dst := h.dst
  fact := fun i hi => (h.fact i _ hi (Array.getElem?_eq_getElem (by have := h.le; omega))).weak

theorem J_den {all : Array Oper} {fr0 rs : List AV} {n0 : Nat} {Mn : List Blk} {bn : List Nat} {ρ0 ρ : Rho} {M0 : List Blk} {a0 a : Act} {w0 w : World} {listed : Array Bool} {bs : List Nat}
    (hJ : J all bs fr0 rs n0 Mn bn ρ0 M0 a0 w0 listed a w ρ) {i : Nat} (hun : listed.getD i false = false) (hpre : ∀ j, Nat.testBit (bs.getD i 0) j = true → listed.getD j false = true) {E : Operand → AV}
    (h1 : ∀ x, (∀ t, x ≠ .tmp t) → E x = evA [] x)
    (h2 : ∀ t, E (.tmp t) = .any ∨ (E (.tmp t) = fr0.getD t .any ∧ (wrt all.toList 0 t = .none ∨ ∃ j, wrt all.toList 0 t = some j ∧ Nat.testBit (bs.getD j 0) i = true)) ∨
        (∃ j, wrt all.toList 0 t = some j ∧ Nat.testBit (bs.getD i 0) j = true ∧ (E (.tmp t) = rs.getD j .any ∨ ∃ b, DecAt rs j b ∧ E (.tmp t) = .d b))) :
    ∀ x, Den ρ (E x) (a.eval x) := by
  intro x
  cases x with
  | tmp t =>
    have hd := hJ.den t
    unfold cont at hd
    rcases h2 t with e | ⟨e, hw⟩ | ⟨j, hw, ht, he⟩
    · rw [e]; trivial
    · rw [e]
      rcases hw with hw | ⟨j, hw, ht⟩
      · simp only [hw] at hd; exact hd
      · simp only [hw] at hd
        have : listed.getD j false ≠ true := fun h => by
          have := hJ.clo j h i ht
          rw [hun] at this; cases this
        rw [if_neg this] at hd
        exact hd
    · simp only [hw] at hd
      rw [if_pos (hpre j ht)] at hd
      rcases he with e | ⟨b, hb, e⟩
      · rw [e]; exact hd
      · rw [e]; exact hb ρ _ hd
  | const v => rw [h1 _ (by simp)]; exact den_const ρ v
  | func f => rw [h1 _ (by simp)]; exact ⟨rfl, by simp⟩
  | global g => rw [h1 _ (by simp)]; trivial

theorem put_get {a : Act} {o : Oper} {v : Value} {t : Nat} : (a.put o.dst v).tmps.getD t undef = if o.dst = some t ∧ t < a.tmps.size then v else a.tmps.getD t undef := by
  cases hd : o.dst with
  | none => simp [Act.put]
  | some d =>
    simp only [Act.put]
    rw [Array.getD_eq_getD_getElem?, Array.getD_eq_getD_getElem?, Array.getElem?_setIfInBounds]
    by_cases hdt : d = t
    · subst hdt
      by_cases hl : d < a.tmps.size
      · simp [hl]
      · simp [hl]
    · simp [hdt]

theorem listed_out {listed : Array Bool} {n : Nat} (h : listed.size = n) : ∀ k, n ≤ k → listed.getD k false = false := fun k hk => by
  rw [Array.getD_eq_getD_getElem?, Array.getElem?_eq_none (by omega)]; rfl

theorem J_step (H : TabOk P Γ) {tb : FuncId → Option Fun} (htb : TbOk P tb) {wr : Bool} {all : Array Oper} {fr0 rs : List AV} {M0 Mn : List Blk} {bn : List Nat} {m : Nat} (hR : RegW all fr0 rs M0 Mn bn m)
    {ρ0 ρ : Rho} {a0 a : Act} {w0 w : World} (hF0 : FRel ρ0 M0.length fr0 a0) (hM0 : MRel ρ0 M0 w0) {listed : Array Bool}
    (hJ : J all (bef all.toList []) fr0 rs M0.length Mn bn ρ0 M0 a0 w0 listed a w ρ) {i : Nat} (hi : i ∈ Region.ready .any all listed) (him : i < m) (hnt : ∀ k, m ≤ k → listed.getD k false = false)
    (hF : ∀ o, all[i]? = some o → OpFact Γ wr tb all.toList (bef all.toList []) fr0 M0.length rs Mn bn i o)
    {K : Act → World → Prop} {Q : Exit → Act → World → Prop}
    (hK : ∀ a' w' ρ', J all (bef all.toList []) fr0 rs M0.length Mn bn ρ0 M0 a0 w0 (listed.setIfInBounds i true) a' w' ρ' → K a' w') : wpOp P all Q i K a w := by
  obtain ⟨o, ho, hin, hun, hedges⟩ := ready_mem hi
  have hli : i < listed.size := by rw [hJ.lsz]; exact hin
  have hun' : listed.getD i false = false := by
    rw [Array.getD_eq_getD_getElem?, Array.getElem?_eq_getElem hli] at hun ⊢
    exact hun
  have hpre : ∀ j, Nat.testBit ((bef all.toList []).getD i 0) j = true → listed.getD j false = true := by
    intro j hj
    obtain ⟨e, he, hb, h⟩ := bef_sound ho hj
    have hl := hedges e he hb
    rcases h with h | h
    · rw [← h]; exact hl
    · exact hJ.clo e.on hl j h
  obtain ⟨⟨want, hg, hno, hyes⟩⟩ := hF o ho
  have hset := listed_set (listed := listed) hli
  have hdst : ∀ t, o.dst = some t → wrt all.toList 0 t = some i := by
    intro t ht
    have := wrt_once all.toList 0 i o t hR.once (by rw [Array.getElem?_toList]; exact ho) ht
    rwa [Nat.zero_add] at this
  have hclo : ∀ k, (listed.setIfInBounds i true).getD k false = true → ∀ j, Nat.testBit ((bef all.toList []).getD k 0) j = true → (listed.setIfInBounds i true).getD j false = true := by
    intro k hk j hj
    rw [hset] at hk ⊢
    rcases hk with hk | rfl
    · exact .inl (hJ.clo k hk j hj)
    · exact .inl (hpre j hj)
  -- what slots hold behind the step
  have hcont : ∀ (ρ' : Rho) (v : Value), Den ρ' (rs.getD i .any) v → (∀ t, Den ρ' (cont all.toList fr0 rs (fun k => listed.getD k false) t) (a.tmps.getD t undef)) →
      ∀ t, Den ρ' (cont all.toList fr0 rs (fun k => (listed.setIfInBounds i true).getD k false) t) ((a.put o.dst v).tmps.getD t undef) := by
    intro ρ' v hv hold t
    rw [put_get]
    have hold' := hold t
    unfold cont at hold' ⊢
    by_cases hd : o.dst = some t
    · rw [hdst t hd] at hold' ⊢
      dsimp only at hold' ⊢
      rw [if_pos ((hset i).2 (.inr rfl))]
      have hl : t < a.tmps.size := by rw [hJ.size]; exact hR.dst o (List.mem_of_getElem? (i := i) (by rw [Array.getElem?_toList]; exact ho)) t hd
      rw [if_pos ⟨hd, hl⟩]; exact hv
    · rw [if_neg (fun h => hd h.1)]
      cases hw : wrt all.toList 0 t with
      | none => rw [hw] at hold'; exact hold'
      | some j =>
        rw [hw] at hold'
        dsimp only at hold' ⊢
        have hji : j ≠ i := by
          rintro rfl
          obtain ⟨-, o', ho', hd'⟩ := wrt_some all.toList 0 j t hw
          rw [Nat.sub_zero, Array.getElem?_toList, ho] at ho'
          cases ho'
          exact hd hd'
        have : (listed.setIfInBounds i true).getD j false = listed.getD j false := by
          rw [Bool.eq_iff_iff, hset]; exact ⟨fun h => h.resolve_right hji, .inl⟩
        by_cases h5 : listed.getD j false = true
        · rw [if_pos h5] at hold'
          rw [if_pos (this.trans h5)]
          exact hold'
        · rw [if_neg h5] at hold'
          rw [if_neg (fun h => h5 (this.symm.trans h))]
          exact hold'
  have hsz : ∀ v, (a.put o.dst v).tmps.size = fr0.length := by
    intro v; rw [← hJ.size]; cases o.dst <;> simp [Act.put]
  have hwant : Region.wanted o (yielded all a.tmps) = want := by
    unfold Region.wanted
    cases hgd : o.guard with
    | none => rw [hgd] at hg; exact hg.symm
    | some js =>
      obtain ⟨j, s⟩ := js
      rw [hgd] at hg
      obtain ⟨⟨hbit, hsome⟩, hor⟩ := hg
      dsimp only
      have hjl := hpre j hbit
      obtain ⟨t, ht⟩ := Option.isSome_iff_exists.1 hsome
      rw [Array.getElem?_toList] at ht
      unfold yielded
      rw [ht]
      cases hoj : all[j]? with
      | none => rw [hoj] at ht; cases ht
      | some oj =>
        rw [hoj] at ht
        simp only [Option.bind_some] at ht
        have hwj : wrt all.toList 0 t = some j := by
          have := wrt_once all.toList 0 j oj t hR.once (by rw [Array.getElem?_toList]; exact hoj) ht
          rwa [Nat.zero_add] at this
        have hlt : t < a.tmps.size := by rw [hJ.size]; exact hR.dst oj (List.mem_of_getElem? (i := j) (by rw [Array.getElem?_toList]; exact hoj)) t ht
        have hd := hJ.den t
        unfold cont at hd
        rw [hwj] at hd
        dsimp only at hd
        rw [if_pos hjl] at hd
        rcases hor with ⟨b, hb, hw⟩ | ⟨hw, hun⟩
        · have hv := hb ρ _ hd
          rw [Array.getD_eq_getD_getElem?, Array.getElem?_eq_getElem hlt] at hv
          simp only [Option.getD_some] at hv
          simp only [Option.bind_some, Array.getElem?_eq_getElem hlt, hv]
          rw [hw]
          cases b <;> cases s <;> rfl
        · rw [hun] at hd
          simp only [Den] at hd
          rw [Array.getD_eq_getD_getElem?, Array.getElem?_eq_getElem hlt] at hd
          simp only [Option.getD_some] at hd
          simp only [Option.bind_some, Array.getElem?_eq_getElem hlt, hd]
          rw [hw]
          rfl
  unfold wpOp
  rw [ho]
  dsimp only
  rw [hwant]
  cases want with
  | false =>
    simp only [Bool.false_eq_true, if_false]
    obtain ⟨hrs, hbn⟩ := hno rfl
    refine hK _ _ ρ ⟨hsz _, by rw [put_defers]; exact hJ.defs, ?_, hclo, by simp [hJ.lsz], ?_⟩
    · exact hcont ρ undef (by rw [hrs]; rfl) hJ.den
    · have e : maskF M0.length bn (fun k => (listed.setIfInBounds i true).getD k false) Mn 0 = maskF M0.length bn (fun k => listed.getD k false) Mn 0 := by
        apply List.ext_getElem?
        intro id
        rw [maskF_get, maskF_get, Nat.zero_add]
        cases Mn[id]? with
        | none => rfl
        | some b =>
          simp only [Option.map_some, Option.some.injEq]
          have : (listed.setIfInBounds i true).getD (bn.getD (id - M0.length) 1000000) false = listed.getD (bn.getD (id - M0.length) 1000000) false := by
            rw [Bool.eq_iff_iff, hset]; exact ⟨fun h => h.resolve_right (hbn _), .inl⟩
          rw [this]
      rw [e]
      exact hJ.aft
  | true =>
    simp only [if_true]
    left
    obtain ⟨base, news, Mk, E, vs, hb0, hb1, hkl, hget, hnw, hborn, hq, hv, hE1, hE2, hE3, hid, hrn, hcl⟩ := hyes rfl
    obtain ⟨vs', hev, hv'⟩ := evQ_evO hq hv
    have hEd := J_den hJ hun' hpre hE2 hE3
    have hgetL : ∀ id, (maskF M0.length bn (fun k => listed.getD k false) Mn 0)[id]? = (Mn[id]?).map fun b => if id < M0.length then b else if listed.getD (bn.getD (id - M0.length) big) false = true then b else .dead := fun id => by
      rw [maskF_get, Nat.zero_add]; rfl
    -- what is live in the step's own memory is live, and the same
    have hsub : ∀ (id : Nat) (b : Blk), Mk[id]? = some b → b.live = true → (maskF M0.length bn (fun k => listed.getD k false) Mn 0)[id]? = some b := by
      intro id b hb hl
      have hidb : id < base := by have := (List.getElem?_eq_some_iff.1 hb).1; omega
      rw [hget id hidb] at hb
      rw [hgetL]
      cases hm : Mn[id]? with
      | none => rw [hm] at hb; cases hb
      | some c =>
        rw [hm] at hb
        simp only [Option.map_some, Option.some.injEq] at hb ⊢
        by_cases h0 : id < M0.length
        · rw [if_pos h0] at hb ⊢; exact hb
        · rw [if_neg h0] at hb ⊢
          split at hb
          · rename_i hq'; rw [if_pos (hpre _ hq')]; exact hb
          · subst hb; cases hl
    have hMk : MRel ρ Mk w := by
      refine ⟨fun id b hb => ?_, fun x y hx hy he => ?_, fun id vs hb x hx j hj => ?_, fun k o hk => ⟨(hJ.aft.rel.env k o hk).1, fun i hi => ?_⟩⟩
      · by_cases hl : b.live = true
        · exact hJ.aft.rel.blk id b (hsub id b hb hl)
        · cases b <;> first | trivial | (exact absurd rfl hl)
      · obtain ⟨bx, hbx, hlx⟩ := hx
        obtain ⟨b', hb', hly⟩ := hy
        exact hJ.aft.rel.inj x y ⟨bx, hsub x bx hbx hlx, hlx⟩ ⟨b', hsub y b' hb' hly, hly⟩ he
      · rw [hkl]
        have hidb : id < base := by have := (List.getElem?_eq_some_iff.1 hb).1; omega
        have hmn : Mn[id]? = some (.r vs) := by
          have := hsub id _ hb rfl
          rw [hgetL] at this
          cases hm : Mn[id]? with
          | none => rw [hm] at this; cases this
          | some c =>
            rw [hm] at this
            simp only [Option.map_some, Option.some.injEq] at this
            by_cases h0 : id < M0.length
            · rw [if_pos h0] at this; rw [this]
            · rw [if_neg h0] at this
              split at this
              · rw [this]
              · cases this
        by_cases h0 : id < M0.length
        · have := hM0.cl id vs (hR.mem id h0 vs hmn) x hx j hj
          omega
        · exact hcl id vs hidb (by omega) hmn x hx j hj
      · obtain ⟨bi, hbi, hli⟩ := hi
        exact (hJ.aft.rel.env k o hk).2 i ⟨bi, hsub i bi hbi hli, hli⟩
    refine evO_sound H htb hEd (fun x j hj => by rw [hkl]; exact hE1 x j hj) hMk hev hv' ?_
    intro v w' ρ1 hA hden hids
    have hA2 := After.step (i := i) (p' := fun k => (listed.setIfInBounds i true).getD k false) hM0.cl hR.mem hR.mle hJ.aft hA hb0 hb1 hkl hget hnw hborn hpre (fun j => hset j)
      (by
        intro id vs h0 hp hmn x hx j hj
        have hbl : id - M0.length < bn.length := by
          have := (List.getElem?_eq_some_iff.1 hmn).1
          have := hR.bnl
          omega
        have hjm := hR.bnm _ hbl
        have hjn : bn.getD (id - M0.length) big < all.size := by have := hR.le; omega
        obtain ⟨want', hno', hyes'⟩ := hR.fact _ hjm
        cases want' with
        | false => exact absurd rfl ((hno' rfl).2 (id - M0.length))
        | true =>
          obtain ⟨base', len', -, hborn', -, hrn'⟩ := hyes' rfl
          have hin' := (hborn' (id - M0.length)).1 rfl
          have hok := hrn' (id - base') vs (by omega) (by rw [show base' + (id - base') = id from by omega]; exact hmn) x hx j hj
          have hok1 := hok.1
          unfold idOk at hok1; simp only [fBig_eq] at hok1
          simp only [Bool.or_eq_true, Bool.and_eq_true, decide_eq_true_eq, beq_iff_eq] at hok1
          rcases hok1 with h | ⟨-, h | h⟩
          · exact .inl h
          · right
            intro e
            rw [e] at h
            have := hJ.clo _ hp i h
            rw [hun'] at this; cases this
          · right
            intro e
            rw [e] at h
            rw [← h] at hp
            rw [hun'] at hp; cases hp)
      (fun m vs hm hg x hx j hj => (hrn m vs hm hg x hx j hj).2)
    refine hK _ _ _ ⟨hsz _, by rw [put_defers]; exact hJ.defs, ?_, hclo, by simp [hJ.lsz], hA2⟩
    apply hcont
    · refine Den.congr (ρ := ρ1) (ρ' := ⟨fun id => if base ≤ id ∧ id < base + news.length then ρ1 id else ρ id, ρ1.F, ρ1.ok⟩) (fun _ _ h => h) ?_ hden
      intro id hidr
      dsimp only
      have h1 := (hid id hidr)
      by_cases h2 : base ≤ id
      · rw [if_pos ⟨h2, h1.2⟩]
      · rw [if_neg (by omega)]
        exact (hA.ext id (by omega)).symm
    · intro t
      refine Den.congr (ρ := ρ) (ρ' := ⟨fun id => if base ≤ id ∧ id < base + news.length then ρ1 id else ρ id, ρ1.F, ρ1.ok⟩) hA.fmono ?_ (hJ.den t)
      intro id hidr
      dsimp only
      rw [if_neg]
      rintro ⟨h2, h3⟩
      unfold cont at hidr
      have hfr : ∀ id ∈ (fr0.getD t .any).ids, id < M0.length := hF0.ids t
      split at hidr
      · have := hfr id hidr; omega
      · rename_i j hw
        split at hidr
        · rename_i hlj
          have hlj' : listed.getD j false = true := hlj
          -- an id of another's value isn't new here
          obtain ⟨-, oj, hoj, hdj⟩ := wrt_some all.toList 0 j t hw
          rw [Nat.sub_zero, Array.getElem?_toList] at hoj
          have hjm : j < m := by
            rcases Nat.lt_or_ge j m with h | h
            · exact h
            · rw [hnt j h] at hlj'; cases hlj'
          obtain ⟨want', hno', hyes'⟩ := hR.fact j hjm
          have hbi : bn.getD (id - M0.length) big = i := (hborn (id - M0.length)).2 ⟨by omega, by omega⟩
          cases want' with
          | false => rw [(hno' rfl).1] at hidr; simp [AV.ids] at hidr
          | true =>
            obtain ⟨base', len', -, -, hid', -⟩ := hyes' rfl
            have hok1 := (hid' id hidr).1
            unfold idOk at hok1; simp only [fBig_eq] at hok1
            simp only [Bool.or_eq_true, Bool.and_eq_true, decide_eq_true_eq, beq_iff_eq] at hok1
            rcases hok1 with h | ⟨-, h | h⟩
            · omega
            · rw [hbi] at h
              have := hJ.clo j hlj' i h
              rw [hun'] at this; cases this
            · rw [hbi] at h
              rw [← h] at hlj'
              rw [hun'] at hlj'; cases hlj'
        · have := hfr id hidr; omega


theorem maskF_all {n0 : Nat} {bn : List Nat} {p : Nat → Bool} {M : List Blk} (hl : bn.length = M.length - n0) (h : ∀ k, k < bn.length → p (bn.getD k big) = true) : maskF n0 bn p M 0 = M := by
  apply List.ext_getElem?
  intro id
  rw [maskF_get, Nat.zero_add]
  cases hm : M[id]? with
  | none => rfl
  | some b =>
    have hid := (List.getElem?_eq_some_iff.1 hm).1
    simp only [Option.map_some]
    by_cases h0 : id < n0
    · rw [if_pos h0]
    · have := h (id - n0) (by omega)
      unfold big at this
      rw [if_neg h0, if_pos this]

/-- The frame behind all. -/
def frEnd (all : List Oper) (fr0 rs : List AV) (δ : List (Nat × Bool)) : List AV := setAll all (decided δ rs 0) fr0

theorem frEnd_rel {all : Array Oper} {fr0 rs : List AV} {M0 Mn : List Blk} {bn : List Nat} {m : Nat} (hR : RegW all fr0 rs M0 Mn bn m) {δ : List (Nat × Bool)} (hδ : DecOK rs δ)
    {ρ0 ρ : Rho} {a0 a : Act} {w0 w : World} (hF0 : FRel ρ0 M0.length fr0 a0) {listed : Array Bool}
    (hJ : J all (bef all.toList []) fr0 rs M0.length Mn bn ρ0 M0 a0 w0 listed a w ρ) (hall : ∀ k, k < m → listed.getD k false = true) (hnt : ∀ k, m ≤ k → listed.getD k false = false) (hrl : rs.length = m) :
    FRel ρ Mn.length (frEnd (all.toList.take m) fr0 rs δ) a := by
  have hlen : (frEnd (all.toList.take m) fr0 rs δ).length = fr0.length := setAll_len ..
  have htake : (all.toList.take m).length = m := by have := hR.le; simp; omega
  have honce : once (all.toList.take m) = true := by
    have key : ∀ (l : List Oper) (n : Nat), once l = true → once (l.take n) = true := by
      intro l
      induction l with
      | nil => intro n _; simp [once]
      | cons o l ih =>
        intro n h
        cases n with
        | zero => rfl
        | succ n =>
          simp only [List.take_succ_cons, once, Bool.and_eq_true] at h ⊢
          refine ⟨?_, ih n h.2⟩
          have h1 := h.1
          cases hd : o.dst with
          | none => rfl
          | some d =>
            rw [hd] at h1
            dsimp only at h1 ⊢
            rw [List.all_eq_true] at h1 ⊢
            exact fun x hx => h1 x (List.mem_of_mem_take hx)
    exact key _ _ hR.once
  have hw : ∀ t, wrt (all.toList.take m) 0 t = match wrt all.toList 0 t with | .none => .none | some j => if j < m then some j else .none := by
    intro t
    cases h1 : wrt (all.toList.take m) 0 t with
    | some j =>
      obtain ⟨-, o, ho, hd⟩ := wrt_some _ 0 j t h1
      rw [Nat.sub_zero, List.getElem?_take] at ho
      split at ho
      · rename_i hj
        have := wrt_once all.toList 0 j o t hR.once ho hd
        rw [this, Nat.zero_add]
        simp only [hj, if_true]
      · cases ho
    | none =>
      cases h2 : wrt all.toList 0 t with
      | none => rfl
      | some j =>
        obtain ⟨-, o, ho, hd⟩ := wrt_some _ 0 j t h2
        rw [Nat.sub_zero] at ho
        dsimp only
        by_cases hj : j < m
        · exact absurd hd (wrt_none _ 0 t h1 o (List.mem_of_getElem? (i := j) (by rw [List.getElem?_take, if_pos hj]; exact ho)))
        · rw [if_neg hj]
  have hget : ∀ t, t < fr0.length → (frEnd (all.toList.take m) fr0 rs δ).getD t .any = match wrt (all.toList.take m) 0 t with | .none => fr0.getD t .any | some j => (decided δ rs 0).getD j .any :=
    fun t ht => setAll_get _ _ _ _ honce (by rw [htake, decided_len]; omega) ht
  refine ⟨by rw [hlen]; exact hJ.size, fun t => ?_, fun t => ?_⟩
  · by_cases ht : t < fr0.length
    · rw [hget t ht, hw]
      have hd := hJ.den t
      unfold cont at hd
      cases h2 : wrt all.toList 0 t with
      | none => rw [h2] at hd; exact hd
      | some j =>
        rw [h2] at hd
        dsimp only at hd ⊢
        by_cases hj : j < m
        · rw [if_pos (hall j hj)] at hd
          rw [if_pos hj]
          dsimp only
          rw [decided_get δ rs 0 j (by omega), Nat.zero_add]
          cases hdj : dget δ j with
          | none => exact hd
          | some b => exact (hδ j b hdj).2 ρ _ hd
        · rw [if_neg (by rw [hnt j (by omega)]; decide)] at hd
          rw [if_neg hj]
          exact hd
    · rw [getD_out (by rw [hlen]; omega)]; trivial
  · by_cases ht : t < fr0.length
    · rw [hget t ht, hw]
      have h0 : ∀ i ∈ (fr0.getD t .any).ids, i < Mn.length := fun i hi => Nat.lt_of_lt_of_le (hF0.ids t i hi) hR.mle
      cases h2 : wrt all.toList 0 t with
      | none => exact h0
      | some j =>
        dsimp only
        by_cases hj : j < m
        · rw [if_pos hj]
          dsimp only
          rw [decided_get δ rs 0 j (by omega), Nat.zero_add]
          cases hdj : dget δ j with
          | some b => simp [AV.ids]
          | none =>
            dsimp only
            have hjn : j < all.size := by have := hR.le; omega
            obtain ⟨want', hno', hyes'⟩ := hR.fact j hj
            cases want' with
            | false => rw [(hno' rfl).1]; simp [AV.ids]
            | true =>
              obtain ⟨base', len', hle', -, hid', -⟩ := hyes' rfl
              intro i hi
              have := (hid' i hi).2
              omega
        · rw [if_neg hj]; exact h0
    · rw [getD_out (by rw [hlen]; omega)]; simp [AV.ids]

/-- Whatever order is drawn: all operations quiet. -/
theorem any_quiet (H : TabOk P Γ) {tb : FuncId → Option Fun} (htb : TbOk P tb) {wr : Bool} {all : Array Oper} {fr0 rs : List AV} {M0 Mn : List Blk} {bn : List Nat} {m : Nat} (hR : RegOK Γ wr tb all fr0 rs M0 Mn bn m)
    {ρ0 : Rho} {a0 : Act} {w0 : World} (hF0 : FRel ρ0 M0.length fr0 a0) (hM0 : MRel ρ0 M0 w0) {Q : Exit → Act → World → Prop}
    (htail : ∀ (fuel : Nat) (listed : Array Bool) (a : Act) (w : World) (ρ : Rho), J all (bef all.toList []) fr0 rs M0.length Mn bn ρ0 M0 a0 w0 listed a w ρ → (∀ k, k < m → listed.getD k false = true) → (∀ k, m ≤ k → listed.getD k false = false) → cnt all.size (fun k => listed.getD k false) ≤ fuel →
      wpAny P .any all Q fuel listed a w) :
    ∀ (fuel : Nat) (listed : Array Bool) (a : Act) (w : World) (ρ : Rho), J all (bef all.toList []) fr0 rs M0.length Mn bn ρ0 M0 a0 w0 listed a w ρ → (∀ k, m ≤ k → listed.getD k false = false) → cnt all.size (fun k => listed.getD k false) ≤ fuel → wpAny P .any all Q fuel listed a w := by
  intro fuel
  induction fuel with
  | zero =>
    intro listed a w ρ hJ hnt hc
    refine htail 0 listed a w ρ hJ (fun k hk => ?_) hnt hc
    exact cnt_zero all.size (fun k => listed.getD k false) (by omega) k (by have := hR.le; omega)
  | succ fuel ih =>
    intro listed a w ρ hJ hnt hc
    by_cases hall : ∀ k, k < m → listed.getD k false = true
    · exact htail _ listed a w ρ hJ hall hnt hc
    · refine ⟨fun hn => ?_, fun i hi => ?_⟩
      · exfalso
        have := ready_nil hR.back hJ.lsz hn
        exact hall fun k hk => this k (by have := hR.le; omega)
      · obtain ⟨o, ho, hin, hun, hedges⟩ := ready_mem hi
        have hli : i < listed.size := by rw [hJ.lsz]; exact hin
        have hun' : listed.getD i false = false := by
          rw [Array.getD_eq_getD_getElem?, Array.getElem?_eq_getElem hli] at hun ⊢
          exact hun
        by_cases him : i < m
        · refine J_step H htb hR.weak hF0 hM0 hJ hi him hnt (fun o ho => hR.fact i o him ho) (fun a' w' ρ' hJ' => ih _ a' w' ρ' hJ' (fun k hk => ?_) ?_)
          · have h1 := hnt k hk
            by_cases h2 : (listed.setIfInBounds i true).getD k false = true
            · rw [listed_set hli] at h2
              rcases h2 with h2 | h2
              · rw [h1] at h2; cases h2
              · omega
            · simpa using h2
          have := cnt_set all.size i (fun k => listed.getD k false) (fun k => (listed.setIfInBounds i true).getD k false) hin hun' (fun k => listed_set hli k)
          omega
        · -- the last operation waits for all others
          exfalso
          apply hall
          intro k hk
          obtain ⟨e, he, hb, h⟩ := bef_sound ho (hR.tailB i (by omega) hin k hk)
          have hl := hedges e he hb
          rcases h with h | h
          · rw [← h]; exact hl
          · exact hJ.clo e.on hl k h


/-! A store in the midst, into a block that is born in the same region and that nothing else there sees. -/

theorem storeW_set {M M2 : List Blk} {id : Nat} {σ : Sg} {r : AV} (h : storeW M id σ r = some M2) :
    ∃ b b', M[id]? = some b ∧ b.live = true ∧ M2 = M.set id b' ∧ ∀ G : List Blk, G[id]? = some b → storeW G id σ r = some (G.set id b') := by
  have h0 := h
  unfold storeW at h
  split at h
  · rename_i τ xs hid
    have key : ∀ b', some M2 = some (M.set id b') → (∀ G : List Blk, G[id]? = some (.c τ xs) → storeW G id σ r = some (G.set id b')) → ∃ b b', M[id]? = some b ∧ b.live = true ∧ M2 = M.set id b' ∧ ∀ G : List Blk, G[id]? = some b → storeW G id σ r = some (G.set id b') :=
      fun b' e k => ⟨_, b', hid, rfl, Option.some.inj e, k⟩
    split at h
    · rename_i k hinf
      split at h
      · rename_i n hc
        refine key _ h.symm fun G hG => ?_
        unfold storeW; rw [hG]; simp only [hinf, hc]
      · cases h
    · rename_i n e hinf
      split at h
      · split at h
        · rename_i hc
          refine key _ h.symm fun G hG => ?_
          unfold storeW; rw [hG]; simp only [hinf]; rw [if_pos hc]
        · cases h
      · cases h
    · rename_i fs hinf
      split at h
      · split at h
        · rename_i hc
          refine key _ h.symm fun G hG => ?_
          unfold storeW; rw [hG]; simp only [hinf]; rw [if_pos hc]
        · cases h
      · cases h
    · cases h
  · rename_i l hid
    split at h
    · refine ⟨_, _, hid, rfl, (Option.some.inj h).symm, fun G hG => ?_⟩
      unfold storeW; rw [hG]
    · cases h
  · rename_i l hid
    split at h
    · split at h
      · rename_i hc
        refine ⟨_, _, hid, rfl, (Option.some.inj h).symm, fun G hG => ?_⟩
        unfold storeW; rw [hG]; dsimp only; rw [if_pos hc]
      · cases h
    · cases h
  · cases h

theorem evE_ok {all : List Oper} {bs : List Nat} {fr0 rs : List AV} {δ : List (Nat × Bool)} (hδ : DecOK rs δ) (i n : Nat) :
    (∀ x, ∀ id ∈ (evE all bs fr0 rs δ i n x).ids, id < n) ∧ (∀ x, (∀ t, x ≠ .tmp t) → evE all bs fr0 rs δ i n x = evA [] x) ∧
    (∀ t, evE all bs fr0 rs δ i n (.tmp t) = .any ∨ (evE all bs fr0 rs δ i n (.tmp t) = fr0.getD t .any ∧ (wrt all 0 t = .none ∨ ∃ j, wrt all 0 t = some j ∧ Nat.testBit (bs.getD j 0) i = true)) ∨
        (∃ j, wrt all 0 t = some j ∧ Nat.testBit (bs.getD i 0) j = true ∧ (evE all bs fr0 rs δ i n (.tmp t) = rs.getD j .any ∨ ∃ b, DecAt rs j b ∧ evE all bs fr0 rs δ i n (.tmp t) = .d b))) := by
  refine ⟨fun x => ?_, fun x hx => ?_, fun t => ?_⟩
  · cases x with
    | tmp t => exact clip_ids _ _
    | const c => simp only [evE, evA, ids_const]; simp
    | func f => simp [evE, evA, AV.ids]
    | global g => simp [evE, evA, AV.ids]
  · cases x with
    | tmp t => exact absurd rfl (hx t)
    | _ => rfl
  · simp only [evE, clip]
    split
    · unfold lookD
      split
      · rename_i e; exact .inr (.inl ⟨rfl, .inl e⟩)
      · rename_i j e
        split
        · rename_i ht
          split
          · rename_i b hb'
            obtain ⟨q1, q2⟩ := hδ j b hb'
            exact .inr (.inr ⟨j, e, ht, .inr ⟨b, q2, rfl⟩⟩)
          · by_cases hjl : j < rs.length
            · exact .inr (.inr ⟨j, e, ht, .inl rfl⟩)
            · exact .inl (getD_out (by omega))
        · split
          · rename_i ht; exact .inr (.inl ⟨rfl, .inr ⟨j, e, ht⟩⟩)
          · exact .inl rfl
    · exact .inl rfl

theorem WeakAt.upd {bs : List Nat} {n0 : Nat} {rs : List AV} {M1 : List Blk} {bn : List Nat} {i id : Nat} {b' : Blk} (hc : ∀ vs, b' ≠ .r vs) (h : WeakAt bs n0 rs M1 bn i) : WeakAt bs n0 rs (M1.set id b') bn i := by
  obtain ⟨want, hno, hyes⟩ := h
  refine ⟨want, hno, fun hw => ?_⟩
  obtain ⟨base, len, h1, h2, h3, h4⟩ := hyes hw
  refine ⟨base, len, by rw [List.length_set]; exact h1, h2, h3, fun m vs hm hg => ?_⟩
  rw [List.getElem?_set] at hg
  split at hg
  · split at hg
    · exact absurd (Option.some.inj hg) (hc vs)
    · cases hg
  · exact h4 m vs hm hg

theorem OpFact.upd {wr : Bool} {tb : FuncId → Option Fun} {all : List Oper} {bs : List Nat} {fr0 : List AV} {n0 : Nat} {rs : List AV} {M1 : List Blk} {bn : List Nat} {i id : Nat} {o : Oper} {b b' : Blk} (hc : ∀ vs, b' ≠ .r vs)
    (hn0 : n0 ≤ id) (hM : M1[id]? = some b) (hia : bn.getD (id - n0) big ≠ i) (hbit : Nat.testBit (bs.getD i 0) (bn.getD (id - n0) big) = false)
    (h : OpFact Γ wr tb all bs fr0 n0 rs M1 bn i o) : OpFact Γ wr tb all bs fr0 n0 rs (M1.set id b') bn i o := by
  obtain ⟨⟨want, hg, hno, hyes⟩⟩ := h
  refine ⟨⟨want, hg, hno, fun hw => ?_⟩⟩
  obtain ⟨base, news, Mk, E, vs, hb0, hb1, hkl, hget, hnw, hborn, hq, hv, hE1, hE2, hE3, hid, hrn, hcl⟩ := hyes hw
  have hne : ∀ m, m < news.length → id ≠ base + m := by
    intro m hm e
    apply hia
    exact (hborn (id - n0)).2 ⟨by omega, by omega⟩
  have hset : ∀ j, id ≠ j → (M1.set id b')[j]? = M1[j]? := fun j hj => by rw [List.getElem?_set, if_neg hj]
  refine ⟨base, news, Mk, E, vs, hb0, by rw [List.length_set]; exact hb1, hkl, fun j hj => ?_, fun m hm => by rw [hset _ (hne m hm)]; exact hnw m hm, hborn, hq, hv, hE1, hE2, hE3, hid, fun m vs hm hg => ?_, fun j vs hj h0 hg => ?_⟩
  · rw [hget j hj]
    by_cases hij : id = j
    · subst hij
      have hlt := (List.getElem?_eq_some_iff.1 hM).1
      rw [List.getElem?_set, if_pos rfl, if_pos hlt, hM]
      simp only [Option.map_some, Option.some.injEq]
      have hlt0 : ¬ id < n0 := by omega
      simp only [hbit, Bool.false_eq_true, if_false, if_neg hlt0]
    · rw [hset j hij]
  · rw [hset _ (hne m hm)] at hg
    exact hrn m vs hm hg
  · rw [List.getElem?_set] at hg
    split at hg
    · split at hg
      · exact absurd (Option.some.inj hg) (hc vs)
      · cases hg
    · exact hcl j vs hj h0 hg

/-- What leaves memory alone, and does not look at it. -/
def isMv (Γ : Tab) : Op → Bool
  | .move _ => true
  | .assign _ => true
  | .binOp _ _ _ _ _ => true
  | .unOp _ _ _ => true
  | .convert s t _ => decide (Γ.sg t ≠ .str ∧ Γ.up s = false ∧ Γ.up t = false)
  | .extract _ _ => true
  | .index _ _ _ => true
  | _ => false
theorem evQ_mv {wr : Bool} {tb : FuncId → Option Fun} {M M' : List Blk} {E : Operand → AV} {o : Op} (h : isMv Γ o = true) : evQ Γ wr tb M E o = evQ Γ wr tb M' E o := by
  cases o
  case convert s t x =>
    obtain ⟨hne, hu1, hu2⟩ : Γ.sg t ≠ .str ∧ Γ.up s = false ∧ Γ.up t = false := of_decide_eq_true h
    show (match (match cvAV Γ wr M s t (E x) with | some r => some r | .none => unsAV Γ M s t (E x)) with | some (r, v) => some (r, [], v) | .none => .none) = (match (match cvAV Γ wr M' s t (E x) with | some r => some r | .none => unsAV Γ M' s t (E x)) with | some (r, v) => some (r, [], v) | .none => .none)
    rw [cvAV_mv (M' := M') hne, unsAV_mv (M' := M') hu1 hu2]
  all_goals first | (cases h; done) | rfl

theorem OpFact.upd' {wr : Bool} {tb : FuncId → Option Fun} {all : List Oper} {bs : List Nat} {fr0 : List AV} {n0 : Nat} {rs : List AV} {M1 : List Blk} {bn : List Nat} {i id : Nat} {o : Oper} {b b' : Blk} (hc : ∀ vs, b' ≠ .r vs)
    (hM : M1[id]? = some b) (hia : n0 ≤ id → bn.getD (id - n0) big ≠ i) (hbit : n0 ≤ id → Nat.testBit (bs.getD i 0) (bn.getD (id - n0) big) = true) (hop : isMv Γ o.op = true)
    (h : OpFact Γ wr tb all bs fr0 n0 rs M1 bn i o) : OpFact Γ wr tb all bs fr0 n0 rs (M1.set id b') bn i o := by
  obtain ⟨⟨want, hg, hno, hyes⟩⟩ := h
  refine ⟨⟨want, hg, hno, fun hw => ?_⟩⟩
  obtain ⟨base, news, Mk, E, vs, hb0, hb1, hkl, hget, hnw, hborn, hq, hv, hE1, hE2, hE3, hid, hrn, hcl⟩ := hyes hw
  have hne : ∀ m, m < news.length → id ≠ base + m := by
    intro m hm e
    apply hia (by omega)
    exact (hborn (id - n0)).2 ⟨by omega, by omega⟩
  have hset : ∀ j, id ≠ j → (M1.set id b')[j]? = M1[j]? := fun j hj => by rw [List.getElem?_set, if_neg hj]
  have hq' : evQ Γ wr tb (Mk.set id b') E o.op = some (rs.getD i .any, news, vs) := by
    rw [evQ_mv (M' := Mk) hop]; exact hq
  refine ⟨base, news, Mk.set id b', E, vs, hb0, by rw [List.length_set]; exact hb1, by rw [List.length_set]; exact hkl, fun j hj => ?_, fun m hm => by rw [hset _ (hne m hm)]; exact hnw m hm, hborn, hq', hv, hE1, hE2, hE3, hid, fun m vs hm hg => ?_, fun j vs hj h0 hg => ?_⟩
  · by_cases hij : id = j
    · subst hij
      have hlt := (List.getElem?_eq_some_iff.1 hM).1
      rw [List.getElem?_set, if_pos rfl, if_pos (by omega), List.getElem?_set, if_pos rfl, if_pos hlt]
      by_cases hlt0 : id < n0
      · simp only [Option.map_some, if_pos hlt0]
      · simp only [Option.map_some, hbit (by omega), if_true, if_neg hlt0]
    · rw [hset j hij, List.getElem?_set, if_neg hij]
      exact hget j hj
  · rw [hset _ (hne m hm)] at hg
    exact hrn m vs hm hg
  · rw [List.getElem?_set] at hg
    split at hg
    · split at hg
      · exact absurd (Option.some.inj hg) (hc vs)
      · cases hg
    · exact hcl j vs hj h0 hg

theorem RegW.upd {all : Array Oper} {fr0 rs : List AV} {M0 M1 : List Blk} {bn : List Nat} {m id : Nat} {b' : Blk} (hc : ∀ vs, b' ≠ .r vs) (h : RegW all fr0 rs M0 M1 bn m) : RegW all fr0 rs M0 (M1.set id b') bn m where
  once := h.once
  back := h.back
  le := h.le
  rsl := h.rsl
  mem := fun j hj vs hv => by
    rw [List.getElem?_set] at hv
    split at hv
    · split at hv
      · exact absurd (Option.some.inj hv) (hc vs)
      · cases hv
    · exact h.mem j hj vs hv
  mle := by rw [List.length_set]; exact h.mle
  bnl := by rw [List.length_set]; exact h.bnl
  bnm := h.bnm
  big := h.big
  dst := h.dst
  fact := fun i hi => (h.fact i hi).upd hc

theorem any_mid (H : TabOk P Γ) {tb : FuncId → Option Fun} (htb : TbOk P tb) {wr : Bool} {all : Array Oper} {fr0 rs : List AV} {M0 M1 : List Blk} {bn : List Nat} {s id : Nat} {o : Oper} {t : TypeId} {x y : Operand} {σ : Sg} {b b' : Blk}
    (hW : RegW all fr0 rs M0 M1 bn all.size) (hc : ∀ vs, b' ≠ .r vs)
    (hf : ∀ i o, i ≠ s → all[i]? = some o → OpFact Γ wr tb all.toList (bef all.toList []) fr0 M0.length rs M1 bn i o)
    (hs : all[s]? = some o) (hop : o.op = .store t x y) (hog : o.guard = .none) (hod : o.dst = .none)
    (hbit : M0.length ≤ id → Nat.testBit ((bef all.toList []).getD s 0) (bn.getD (id - M0.length) big) = true)
    (hoth : ∀ i o, all[i]? = some o → i ≠ s → Nat.testBit ((bef all.toList []).getD s 0) i = true ∨ (M0.length ≤ id ∧ Nat.testBit ((bef all.toList []).getD i 0) (bn.getD (id - M0.length) big) = false) ∨ isMv Γ o.op = true)
    (hns : ∀ m, bn.getD m big ≠ s)
    (hb : M1[id]? = some b) {E : Operand → AV}
    (hE1 : ∀ x, ∀ j ∈ (E x).ids, j < M1.length) (hE2 : ∀ x, (∀ t, x ≠ .tmp t) → E x = evA [] x)
    (hE3 : ∀ t, E (.tmp t) = .any ∨ (E (.tmp t) = fr0.getD t .any ∧ (wrt all.toList 0 t = .none ∨ ∃ j, wrt all.toList 0 t = some j ∧ Nat.testBit ((bef all.toList []).getD j 0) s = true)) ∨
        (∃ j, wrt all.toList 0 t = some j ∧ Nat.testBit ((bef all.toList []).getD s 0) j = true ∧ (E (.tmp t) = rs.getD j .any ∨ ∃ b, DecAt rs j b ∧ E (.tmp t) = .d b)))
    (hx : E x = .pw id σ) (ht : Γ.sg t = σ ∧ σ ≠ .none) (hst : ∀ G : List Blk, G[id]? = some b → storeW G id σ (E y) = some (G.set id b'))
    {ρ0 : Rho} {a0 : Act} {w0 : World} (hF0 : FRel ρ0 M0.length fr0 a0) (hM0 : MRel ρ0 M0 w0) {Q : Exit → Act → World → Prop}
    (hend : ∀ (fuel : Nat) (listed : Array Bool) (a : Act) (w : World) (ρ : Rho), J all (bef all.toList []) fr0 rs M0.length (M1.set id b') bn ρ0 M0 a0 w0 listed a w ρ → (∀ k, k < all.size → listed.getD k false = true) → wpAny P .any all Q fuel listed a w) :
    ∀ (fuel : Nat) (listed : Array Bool) (a : Act) (w : World) (ρ : Rho),
      ((listed.getD s false = false ∧ J all (bef all.toList []) fr0 rs M0.length M1 bn ρ0 M0 a0 w0 listed a w ρ) ∨ (listed.getD s false = true ∧ J all (bef all.toList []) fr0 rs M0.length (M1.set id b') bn ρ0 M0 a0 w0 listed a w ρ)) →
      cnt all.size (fun k => listed.getD k false) ≤ fuel → wpAny P .any all Q fuel listed a w := by
  have hidl := (List.getElem?_eq_some_iff.1 hb).1
  have hsl := (Array.getElem?_eq_some_iff.1 hs).1
  have atEnd : ∀ (fuel : Nat) (listed : Array Bool) (a : Act) (w : World) (ρ : Rho),
      ((listed.getD s false = false ∧ J all (bef all.toList []) fr0 rs M0.length M1 bn ρ0 M0 a0 w0 listed a w ρ) ∨ (listed.getD s false = true ∧ J all (bef all.toList []) fr0 rs M0.length (M1.set id b') bn ρ0 M0 a0 w0 listed a w ρ)) →
      (∀ k, k < all.size → listed.getD k false = true) → wpAny P .any all Q fuel listed a w := by
    intro fuel listed a w ρ hJ hall
    rcases hJ with ⟨h, -⟩ | ⟨-, hJ⟩
    · rw [hall s hsl] at h; cases h
    · exact hend fuel listed a w ρ hJ hall
  intro fuel
  induction fuel with
  | zero =>
    intro listed a w ρ hJ hcn
    exact atEnd 0 listed a w ρ hJ (cnt_zero all.size (fun k => listed.getD k false) (by omega))
  | succ fuel ih =>
    intro listed a w ρ hJ hcn
    by_cases hall : ∀ k, k < all.size → listed.getD k false = true
    · exact atEnd _ listed a w ρ hJ hall
    · have hlsz : listed.size = all.size := by rcases hJ with ⟨-, h⟩ | ⟨-, h⟩ <;> exact h.lsz
      refine ⟨fun hn => absurd (ready_nil hW.back hlsz hn) hall, fun i hi => ?_⟩
      obtain ⟨o', ho', hin, hun, hedges⟩ := ready_mem hi
      have hli : i < listed.size := by rw [hlsz]; exact hin
      have hun' : listed.getD i false = false := by
        rw [Array.getD_eq_getD_getElem?, Array.getElem?_eq_getElem hli] at hun ⊢
        exact hun
      have hset := listed_set (listed := listed) hli
      have hcn' : cnt all.size (fun k => (listed.setIfInBounds i true).getD k false) ≤ fuel := by
        have := cnt_set all.size i (fun k => listed.getD k false) (fun k => (listed.setIfInBounds i true).getD k false) hin hun' (fun k => listed_set hli k)
        omega
      by_cases his : i = s
      · subst his
        rcases hJ with ⟨-, hJ⟩ | ⟨h, -⟩
        case inr => rw [hun'] at h; cases h
        rw [hs] at ho'
        cases ho'
        have hpre : ∀ j, Nat.testBit ((bef all.toList []).getD i 0) j = true → listed.getD j false = true := by
          intro j hj
          obtain ⟨e, he, hb, h⟩ := bef_sound hs hj
          have hl := hedges e he hb
          rcases h with h | h
          · rw [← h]; exact hl
          · exact hJ.clo e.on hl j h
        have hEd := J_den hJ hun' hpre hE2 hE3
        have hG : ∀ j, (maskF M0.length bn (fun k => listed.getD k false) M1 0)[j]? = (M1[j]?).map fun b => if j < M0.length then b else if listed.getD (bn.getD (j - M0.length) big) false = true then b else .dead := fun j => by
          rw [maskF_get, Nat.zero_add]; rfl
        have hGid : (maskF M0.length bn (fun k => listed.getD k false) M1 0)[id]? = some b := by
          rw [hG, hb]
          simp only [Option.map_some, Option.some.injEq]
          by_cases h0 : id < M0.length
          · rw [if_pos h0]
          · rw [if_neg h0, if_pos (hpre _ (hbit (by omega)))]
        have hev : evO Γ wr tb (maskF M0.length bn (fun k => listed.getD k false) M1 0) E o.op = some (.any, (maskF M0.length bn (fun k => listed.getD k false) M1 0).set id b', []) := by
          rw [hop]
          simp only [evO, hx]
          rw [if_pos ht, hst _ hGid]
        unfold wpOp
        rw [hs]
        dsimp only
        have hwn : Region.wanted o (yielded all a.tmps) = true := by unfold Region.wanted; rw [hog]
        rw [hwn]
        simp only [if_true]
        left
        refine evO_sound H htb hEd (fun x j hj => by rw [maskF_len]; exact hE1 x j hj) hJ.aft.rel hev trivial ?_
        intro v w' ρ1 hA _ _
        rw [hod]
        refine ih _ _ w' ρ1 (.inr ⟨(hset i).2 (.inr rfl), ⟨hJ.size, hJ.defs, fun t => ?_, fun k hk j hj => ?_, by simp [hJ.lsz], ?_⟩⟩) hcn'
        · have hd := hJ.den t
          have hce : cont all.toList fr0 rs (fun k => (listed.setIfInBounds i true).getD k false) t = cont all.toList fr0 rs (fun k => listed.getD k false) t := by
            unfold cont
            cases hw : wrt all.toList 0 t with
            | none => rfl
            | some j =>
              dsimp only
              have hji : j ≠ i := by
                rintro rfl
                obtain ⟨-, o'', ho'', hd''⟩ := wrt_some all.toList 0 j t hw
                rw [Nat.sub_zero, Array.getElem?_toList, hs] at ho''
                cases ho''
                rw [hod] at hd''; cases hd''
              have : (listed.setIfInBounds i true).getD j false = listed.getD j false := by
                rw [Bool.eq_iff_iff, hset]; exact ⟨fun h => h.resolve_right hji, .inl⟩
              by_cases h5 : listed.getD j false = true
              · rw [if_pos (this.trans h5), if_pos h5]
              · rw [if_neg (fun h => h5 (this.symm.trans h)), if_neg h5]
          rw [hce]
          refine Den.congr hA.fmono (fun j hj => hA.ext j ?_) hd
          rw [maskF_len]
          unfold cont at hj
          have hfr : ∀ j ∈ (fr0.getD t .any).ids, j < M1.length := fun j hj => Nat.lt_of_lt_of_le (hF0.ids t j hj) hW.mle
          split at hj
          · exact hfr j hj
          · rename_i k hw
            split at hj
            · obtain ⟨-, ok, hok, -⟩ := wrt_some all.toList 0 k t hw
              rw [Nat.sub_zero, Array.getElem?_toList] at hok
              have hkn := (Array.getElem?_eq_some_iff.1 hok).1
              obtain ⟨want', hno', hyes'⟩ := hW.fact k hkn
              cases want' with
              | false => rw [(hno' rfl).1] at hj; simp [AV.ids] at hj
              | true =>
                obtain ⟨base', len', hle', -, hid', -⟩ := hyes' rfl
                have := (hid' j hj).2
                omega
            · exact hfr j hj
        · rw [hset] at hk ⊢
          rcases hk with hk | rfl
          · exact .inl (hJ.clo k hk j hj)
          · exact .inl (hpre j hj)
        · have e : maskF M0.length bn (fun k => (listed.setIfInBounds i true).getD k false) (M1.set id b') 0 = (maskF M0.length bn (fun k => listed.getD k false) M1 0).set id b' := by
            apply List.ext_getElem?
            intro j
            rw [maskF_get, Nat.zero_add, List.getElem?_set, List.getElem?_set, maskF_len]
            by_cases hij : id = j
            · subst hij
              rw [if_pos rfl, if_pos rfl, if_pos hidl]
              simp only [Option.map_some, Option.some.injEq]
              by_cases h0 : id < M0.length
              · rw [if_pos h0]
              · have : (listed.setIfInBounds i true).getD (bn.getD (id - M0.length) 1000000) false = true := (hset _).2 (.inl (hpre _ (hbit (by omega))))
                rw [if_neg h0, if_pos this]
            · rw [if_neg hij, if_neg hij, hG]
              cases M1[j]? with
              | none => rfl
              | some c =>
                simp only [Option.map_some, Option.some.injEq]
                have : (listed.setIfInBounds i true).getD (bn.getD (j - M0.length) 1000000) false = listed.getD (bn.getD (j - M0.length) big) false := by
                  rw [Bool.eq_iff_iff, hset]; exact ⟨fun h => h.resolve_right (hns _), .inl⟩
                by_cases h0 : j < M0.length
                · rw [if_pos h0, if_pos h0]
                · rw [if_neg h0, if_neg h0]
                  by_cases h5 : listed.getD (bn.getD (j - M0.length) big) false = true
                  · rw [if_pos (this.trans h5), if_pos h5]
                  · rw [if_neg (fun h => h5 (this.symm.trans h)), if_neg h5]
          rw [e]
          exact hJ.aft.trans hA
      · have hsk : (listed.setIfInBounds i true).getD s false = listed.getD s false := by
          rw [Bool.eq_iff_iff, hset]; exact ⟨fun h => h.resolve_right (fun e => his e.symm), .inl⟩
        rcases hJ with ⟨h, hJ⟩ | ⟨h, hJ⟩
        · exact J_step H htb hW hF0 hM0 hJ hi hin (listed_out hJ.lsz) (fun o ho => hf i o his ho) (fun a' w' ρ' hJ' => ih _ a' w' ρ' (.inl ⟨by rw [hsk]; exact h, hJ'⟩) hcn')
        · have hia : M0.length ≤ id → bn.getD (id - M0.length) big ≠ i := by
            rintro h0 rfl
            have := hJ.clo s h _ (hbit h0)
            rw [hun'] at this; cases this
          refine J_step H htb (wr := wr) (hW.upd hc) hF0 hM0 hJ hi hin (listed_out hJ.lsz) (fun o ho => ?_) (fun a' w' ρ' hJ' => ih _ a' w' ρ' (.inr ⟨by rw [hsk]; exact h, hJ'⟩) hcn')
          by_cases hfree : M0.length ≤ id ∧ Nat.testBit ((bef all.toList []).getD i 0) (bn.getD (id - M0.length) big) = false
          · exact (hf i o his ho).upd hc hfree.1 hb (hia hfree.1) hfree.2
          · rcases hoth i o ho his with h2 | h2 | hx
            · have := hJ.clo s h i h2
              rw [hun'] at this; cases this
            · exact absurd h2 hfree
            · refine (hf i o his ho).upd' hc hb hia (fun h0 => ?_) hx
              cases hbi : Nat.testBit ((bef all.toList []).getD i 0) (bn.getD (id - M0.length) big) with
              | true => rfl
              | false => exact absurd ⟨h0, hbi⟩ hfree

def dstOk (n : Nat) (l : List Oper) : Bool := l.all fun o => match o.dst with | some d => decide (d < n) | .none => true

def fBigs {α : Type} : List Nat → (List Nat → α) → α
  | [], K => K []
  | i :: l, K => fBig i fun i => fBigs l fun l => K (i :: l)
theorem fBigs_eq {α : Type} (l : List Nat) (K : List Nat → α) : fBigs l K = K l := by
  induction l generalizing K with
  | nil => rfl
  | cons i l ih => simp only [fBigs, fBig_eq, ih]

def isTail : List Oper → Bool
  | [] => false
  | [o] => (match o.op with | .store _ _ _ => true | _ => false) && o.guard.isNone && o.dst.isNone
  | _ :: l => isTail l

/-- The place of the first bare store. -/
def isSt (o : Oper) : Bool := (match o.op with | .store _ _ _ => true | _ => false) && o.guard.isNone && o.dst.isNone
def midSt : List Oper → Nat → Option Nat
  | [], _ => .none
  | o :: l, k => match isSt o with
    | true => some k
    | false => midSt l (k + 1)
/-- An operation that does nothing stands for it. -/
def dum (o : Oper) : Oper := { o with op := .move (.const (.bool true)) }
def midOthers (Γ : Tab) (bs : List Nat) (s : Nat) (see : Nat → Bool) : List Oper → Nat → Bool
  | [], _ => true
  | o :: l, i => (i == s || tbit (bs.getD s 0) i || !(see (bs.getD i 0)) || isMv Γ o.op) && midOthers Γ bs s see l (i + 1)
theorem midOthers_get {bs : List Nat} {s : Nat} {see : Nat → Bool} : ∀ (l : List Oper) (k i : Nat) (o : Oper), midOthers Γ bs s see l k = true → l[i]? = some o → k + i = s ∨ Nat.testBit (bs.getD s 0) (k + i) = true ∨ see (bs.getD (k + i) 0) = false ∨ isMv Γ o.op = true
  | [], _, _, _, _, h => by simp at h
  | o' :: l, k, 0, o, hb, h => by
    simp only [List.getElem?_cons_zero, Option.some.injEq] at h
    subst h
    simp only [midOthers, tbit_eq, Bool.and_eq_true, Bool.or_eq_true, beq_iff_eq, Bool.not_eq_true'] at hb
    rcases hb.1 with ((h | h) | h) | h
    · exact .inl h
    · exact .inr (.inl h)
    · exact .inr (.inr (.inl h))
    · exact .inr (.inr (.inr h))
  | o' :: l, k, i + 1, o, hb, h => by
    simp only [midOthers, Bool.and_eq_true] at hb
    have := midOthers_get l (k + 1) i o hb.2 (by simpa using h)
    rwa [show k + 1 + i = k + (i + 1) from by omega] at this
def midOk (Γ : Tab) (bs : List Nat) (all : List Oper) (n0 : Nat) (bn : List Nat) (id s : Nat) : Bool :=
  match decide (id < n0) with
  | true => midOthers Γ bs s (fun _ => true) all 0
  | false => decide (id - n0 < bn.length) && fBig (bn.getD (id - n0) big) fun a => tbit (bs.getD s 0) a && midOthers Γ bs s (fun b => tbit b a) all 0
theorem midOk_get {bs : List Nat} {all : List Oper} {n0 : Nat} {bn : List Nat} {id s : Nat} (h : midOk Γ bs all n0 bn id s = true) :
    (n0 ≤ id → Nat.testBit (bs.getD s 0) (bn.getD (id - n0) big) = true) ∧ ∀ i o, all[i]? = some o → i ≠ s → Nat.testBit (bs.getD s 0) i = true ∨ (n0 ≤ id ∧ Nat.testBit (bs.getD i 0) (bn.getD (id - n0) big) = false) ∨ isMv Γ o.op = true := by
  unfold midOk at h
  split at h
  · rename_i h0
    have h0 : id < n0 := of_decide_eq_true h0
    refine ⟨fun h1 => by omega, fun i o ho his => ?_⟩
    have := midOthers_get all 0 i o h ho
    rw [Nat.zero_add] at this
    rcases this with h2 | h2 | h2 | h2
    · exact absurd h2 his
    · exact .inl h2
    · cases h2
    · exact .inr (.inr h2)
  · rename_i h0
    have h0 : ¬ id < n0 := of_decide_eq_false h0
    simp only [fBig_eq, tbit_eq, Bool.and_eq_true, decide_eq_true_eq] at h
    obtain ⟨-, hbit, hm⟩ := h
    refine ⟨fun _ => hbit, fun i o ho his => ?_⟩
    have := midOthers_get all 0 i o hm ho
    rw [Nat.zero_add] at this
    rcases this with h2 | h2 | h2 | h2
    · exact absurd h2 his
    · exact .inl h2
    · exact .inr (.inl ⟨by omega, h2⟩)
    · exact .inr (.inr h2)
def evM (Γ : Tab) (wr : Bool) (tb : FuncId → Option Fun) (all : List Oper) (bs : List Nat) (fr : List AV) (M : List Blk) (s : Nat) (π : List Bool) : Option (List AV × List Blk × List Bool × List Prop) :=
  match all[s]? with
  | some o => (match o.op with
    | .store t x y => (match evD Γ wr tb all bs fr M.length (all.set s (dum o)) 0 [] M [] [] π with
      | some (rs, M', bn, δ, π, v) => (match evE all bs fr rs δ s M'.length x with
        | .pw id σ => if (decide (Γ.sg t = σ ∧ σ ≠ .none) && isSt o && midOk Γ bs all M.length bn id s) = true then (match storeW M' id σ (evE all bs fr rs δ s M'.length y) with
          | some M2 => (match M2[id]? with
            | some (.c _ _) => fL (frEnd all fr rs δ) fun fr => fM M2 fun M2 => fP v fun v => some (fr, M2, π, v)
            | _ => .none)
          | .none => .none) else .none
        | _ => .none)
      | .none => .none)
    | _ => .none)
  | .none => .none

/-- A call of which the table says that it writes into what is older (its Fun answers to the sign [.un]). -/
def killer (tb : FuncId → Option Fun) (o : Oper) : Bool :=
  match o.op with
  | .call c => (match c.callee with
    | .value (.func n) => (match tb n with
      | some S => (S [.un] []).isSome
      | .none => false)
    | .builtin .append => true
    | _ => false)
  | _ => false
/-- Such a call by itself (not an append). -/
def killC (tb : FuncId → Option Fun) (o : Oper) : Bool :=
  match o.op with
  | .call c => (match c.callee with
    | .value (.func n) => (match tb n with
      | some S => (S [.un] []).isSome
      | .none => false)
    | _ => false)
  | _ => false
/-- The last one writes: a bare store, or such a call. -/
def isTail1 (tb : FuncId → Option Fun) (all : List Oper) : Bool := isTail all || (match all.getLast? with
  | some o => killC tb o && o.guard.isNone
  | .none => false)
/-- A region's last two, if the first of them is such a call. -/
def tail2 (tb : FuncId → Option Fun) (all : List Oper) : Option (Oper × Oper) :=
  match all.drop (all.length - 2) with
  | [o1, o2] => (match killer tb o1 || (killer tb o2 && !killC tb o2) with
    | true => (match o1.guard, o2.guard with
      | .none, .none => some (o1, o2)
      | _, _ => .none)
    | false => .none)
  | _ => .none
theorem tail2_some {tb : FuncId → Option Fun} {all : List Oper} {o1 o2 : Oper} (h : tail2 tb all = some (o1, o2)) : 2 ≤ all.length ∧ all[all.length - 2]? = some o1 ∧ all[all.length - 1]? = some o2 ∧ o1.guard = .none ∧ o2.guard = .none := by
  unfold tail2 at h
  split at h
  case h_2 => cases h
  rename_i p1 p2 hd
  split at h
  case h_2 => cases h
  split at h
  case h_2 => cases h
  rename_i g1 g2
  cases h
  have hl : (all.drop (all.length - 2)).length = 2 := by rw [hd]; rfl
  rw [List.length_drop] at hl
  have e0 : (all.drop (all.length - 2))[0]? = some o1 := by rw [hd]; rfl
  have e1 : (all.drop (all.length - 2))[1]? = some o2 := by rw [hd]; rfl
  rw [List.getElem?_drop] at e0 e1
  rw [Nat.add_zero] at e0
  rw [show all.length - 2 + 1 = all.length - 1 from by omega] at e1
  exact ⟨by omega, e0, e1, g1, g2⟩
def allBits (b n : Nat) : Bool := (List.range n).all fun k => Nat.testBit b k
theorem allBits_get {b n : Nat} (h : allBits b n = true) {k : Nat} (hk : k < n) : Nat.testBit b k = true := by
  unfold allBits at h
  rw [List.all_eq_true] at h
  exact h k (List.mem_range.2 hk)

/-- A region whose order is open. -/
def evR (Γ : Tab) (wr : Bool) (tb : FuncId → Option Fun) (all : List Oper) (fr : List AV) (M : List Blk) (π : List Bool) : Option (List AV × List Blk × List Bool × List Prop) :=
  fBigs (bef all []) fun bs =>
  if (once all && backOk all 0 && dstOk fr.length all && decide (all.length ≤ 1000)) = true then
    (match tail2 tb all with
    | some (o1, o2) => (match evD Γ wr tb all bs fr M.length (all.take (all.length - 2)) 0 [] M [] [] π with
      | some (rs, M', _, δ, π, v) =>
        if (allBits (bs.getD (all.length - 2) 0) (all.length - 2) && allBits (bs.getD (all.length - 1) 0) (all.length - 1)) = true then
          fL (frEnd (all.take (all.length - 2)) fr rs δ) fun fr => fM M' fun M' =>
          (match evO Γ wr tb M' (evA fr) o1.op with
          | some (r1, M1, v1) => fL (setO fr o1.dst r1) fun fr1 => fM M1 fun M1 => (match evO Γ wr tb M1 (evA fr1) o2.op with
            | some (r2, M2, v2) => fL (setO fr1 o2.dst r2) fun fr2 => fM M2 fun M2 => fP (v ++ (v1 ++ v2)) fun v => some (fr2, M2, π, v)
            | .none => .none)
          | .none => .none)
        else .none
      | .none => .none)
    | .none =>
    (match isTail1 tb all with
    | true => (match evD Γ wr tb all bs fr M.length all.dropLast 0 [] M [] [] π with
      | some (rs, M', _, δ, π, v) =>
        if ((List.range (all.length - 1)).all fun k => Nat.testBit (bs.getD (all.length - 1) 0) k) = true then
          fL (frEnd all.dropLast fr rs δ) fun fr => fM M' fun M' =>
          (match all.getLast? with
          | some o => (match evO Γ wr tb M' (evA fr) o.op with
            | some (r, M'', v') => fL (setO fr o.dst r) fun fr => fM M'' fun M'' => fP (v ++ v') fun v => some (fr, M'', π, v)
            | .none => .none)
          | .none => .none)
        else .none
      | .none => .none)
    | false => (match midSt all 0 with
      | some s => evM Γ wr tb all bs fr M s π
      | .none => (match evD Γ wr tb all bs fr M.length all 0 [] M [] [] π with
        | some (rs, M', _, δ, π, v) => fL (frEnd all fr rs δ) fun fr => fM M' fun M' => fP v fun v => some (fr, M', π, v)
        | .none => .none))))
  else .none

theorem dstOk_get {n : Nat} {l : List Oper} (h : dstOk n l = true) : ∀ o ∈ l, ∀ d, o.dst = some d → d < n := by
  intro o ho d hd
  have := List.all_eq_true.1 h o ho
  rw [hd] at this
  simpa using this

theorem J_start {all : Array Oper} {fr0 rs : List AV} {M0 Mn : List Blk} {bn : List Nat} {ρ0 : Rho} {a0 : Act} {w0 : World} (hF0 : FRel ρ0 M0.length fr0 a0) (hd : a0.defers = a0.defers) (hM0 : MRel ρ0 M0 w0)
    (hmem : ∀ id, id < M0.length → Mn[id]? = M0[id]?) (hmle : M0.length ≤ Mn.length) :
    J all (bef all.toList []) fr0 rs M0.length Mn bn ρ0 M0 a0 w0 (Array.replicate all.size false) a0 { w0 with drawn := w0.drawn + 1 } ρ0 := by
  have hl : ∀ k, (Array.replicate all.size false).getD k false = false := by
    intro k
    rw [Array.getD_eq_getD_getElem?, Array.getElem?_replicate]
    split <;> rfl
  have g : ∀ id, (maskF M0.length bn (fun k => (Array.replicate all.size false).getD k false) Mn 0)[id]? = (Mn[id]?).map fun b => if id < M0.length then b else .dead := by
    intro id
    rw [maskF_get, Nat.zero_add]
    cases Mn[id]? with
    | none => rfl
    | some b => simp only [Option.map_some, hl]; split <;> simp
  have hlv : ∀ id, liveAt (maskF M0.length bn (fun k => (Array.replicate all.size false).getD k false) Mn 0) id → id < M0.length ∧ liveAt M0 id := by
    rintro id ⟨b, hb, hv⟩
    rw [g] at hb
    by_cases h0 : id < M0.length
    · rw [hmem id h0] at hb
      cases hm : M0[id]? with
      | none => rw [hm] at hb; cases hb
      | some c =>
        rw [hm] at hb
        simp only [Option.map_some, Option.some.injEq] at hb
        rw [if_pos h0] at hb
        subst hb
        exact ⟨h0, c, hm, hv⟩
    · cases hm : Mn[id]? with
      | none => rw [hm] at hb; cases hb
      | some c =>
        rw [hm] at hb
        simp only [Option.map_some, Option.some.injEq] at hb
        rw [if_neg h0] at hb
        subst hb; cases hv
  refine ⟨hF0.size, hd, fun t => ?_, (fun i hi => by rw [hl] at hi; cases hi), by simp, ?_⟩
  · unfold cont
    split
    · exact hF0.den t
    · rename_i j _
      rw [if_neg (by dsimp only; rw [hl]; simp)]
      exact hF0.den t
  · refine ⟨fun _ _ => rfl, ⟨fun id b hb => ?_, fun i j hi hj he => hM0.inj i j (hlv i hi).2 (hlv j hj).2 he, fun id vs hb x hx j hj => ?_, fun k o hk => ⟨(hM0.env k o hk).1, fun i hi => (hM0.env k o hk).2 i (hlv i hi).2⟩⟩, by rw [maskF_len]; exact hmle, fun id _ h => (hlv id h).2, fun id hid h => by have := (hlv id h).1; omega, fun _ _ _ => rfl, rfl, rfl, rfl, Nat.le_refl _, ρ0.le_refl, fun _ _ h => .inl h⟩
    · rw [g] at hb
      by_cases h0 : id < M0.length
      · rw [hmem id h0] at hb
        cases hm : M0[id]? with
        | none => rw [hm] at hb; cases hb
        | some c =>
          rw [hm] at hb
          simp only [Option.map_some, Option.some.injEq] at hb
          rw [if_pos h0] at hb
          subst hb
          exact hM0.blk id c hm
      · cases hm : Mn[id]? with
        | none => rw [hm] at hb; cases hb
        | some c =>
          rw [hm] at hb
          simp only [Option.map_some, Option.some.injEq] at hb
          rw [if_neg h0] at hb
          subst hb; trivial
    · rw [maskF_len]
      obtain ⟨h0, -⟩ := hlv id ⟨_, hb, rfl⟩
      rw [g, hmem id h0] at hb
      cases hm : M0[id]? with
      | none => rw [hm] at hb; cases hb
      | some c =>
        rw [hm] at hb
        simp only [Option.map_some, Option.some.injEq] at hb
        rw [if_pos h0] at hb
        subst hb
        have := hM0.cl id vs hm x hx j hj
        omega

theorem ready_all {all : Array Oper} {listed : Array Bool} (hs : listed.size = all.size) (h : ∀ k, k < all.size → listed.getD k false = true) : Region.ready .any all listed = [] := by
  rw [List.eq_nil_iff_forall_not_mem]
  intro i hi
  obtain ⟨o, ho, hin, hun, -⟩ := ready_mem hi
  have := h i hin
  rw [Array.getD_eq_getD_getElem?, Array.getElem?_eq_getElem (by omega)] at hun this
  simp only [Option.getD_some] at hun this
  rw [hun] at this; cases this

theorem evM_sound (H : TabOk P Γ) {tb : FuncId → Option Fun} (htb : TbOk P tb) {wr : Bool} {all : Array Oper} {ρ0 : Rho} {fr0 fr' : List AV} {M0 M' : List Blk} {π π' : List Bool} {a0 : Act} {w0 : World} {vs : List Prop} {s : Nat}
    {Q : Exit → Act → World → Prop} (hF0 : FRel ρ0 M0.length fr0 a0) (hM0 : MRel ρ0 M0 w0) (honce : once all.toList = true) (hback : backOk all.toList 0 = true) (hdst : dstOk fr0.length all.toList = true) (hlen : all.size ≤ 1000)
    (h : evM Γ wr tb all.toList (bef all.toList []) fr0 M0 s π = some (fr', M', π', vs)) (hv : allP vs)
    (K : ∀ a' w' ρ', After ρ0 M0 M' w0 w' ρ' → FRel ρ' M'.length fr' a' → a'.defers = a0.defers → Q .normal a' w') :
    wpAny P .any all Q all.size (Array.replicate all.size false) a0 { w0 with drawn := w0.drawn + 1 } := by
  have hcnt : ∀ (l : Array Bool), cnt all.size (fun k => l.getD k false) ≤ all.size := by
    intro l
    have : ∀ n (p : Nat → Bool), cnt n p ≤ n := by
      intro n p
      induction n with
      | zero => exact Nat.le_refl _
      | succ n ih => simp only [cnt]; split <;> omega
    exact this _ _
  have hrepl : ∀ k, (Array.replicate all.size false).getD k false = false := by
    intro k
    rw [Array.getD_eq_getD_getElem?, Array.getElem?_replicate]
    split <;> rfl
  unfold evM at h
  split at h
  case h_2 => cases h
  rename_i o ho
  split at h
  case h_2 => cases h
  rename_i t x y hop
  split at h
  case h_2 => cases h
  rename_i rs M1 bn δ π1 v1 hD
  split at h
  case h_2 => cases h
  rename_i id σ hx
  split at h
  case isFalse => cases h
  rename_i hck
  simp only [Bool.and_eq_true, decide_eq_true_eq] at hck
  obtain ⟨⟨ht, hst⟩, hmid⟩ := hck
  split at h
  case h_2 => cases h
  rename_i M2 hsW
  split at h
  case h_2 => cases h
  rename_i τ xs hM2
  simp only [fL_eq, fM_eq, fP_eq] at h
  simp only [Option.some.injEq, Prod.mk.injEq] at h
  obtain ⟨rfl, rfl, rfl, rfl⟩ := h
  obtain ⟨b, b', hb, hlive, rfl, hstG⟩ := storeW_set hsW
  have hidl := (List.getElem?_eq_some_iff.1 hb).1
  rw [List.getElem?_set, if_pos rfl, if_pos hidl] at hM2
  have hc : ∀ vs, b' ≠ .r vs := by intro vs e; rw [e] at hM2; cases hM2
  unfold isSt at hst
  simp only [Bool.and_eq_true, Option.isNone_iff_eq_none] at hst
  obtain ⟨⟨-, hog⟩, hod⟩ := hst
  obtain ⟨hbit, hoth⟩ := midOk_get hmid
  have hol : all[s]? = some o := by rw [← Array.getElem?_toList]; exact ho
  have hsl := (Array.getElem?_eq_some_iff.1 hol).1
  have hdlen : (all.toList.set s (dum o)).length = all.size := by rw [List.length_set, Array.length_toList]
  obtain ⟨⟨r1, e1, l1⟩, ⟨r2, e2⟩, ⟨r3, e3, l3⟩, hbn, hδ, hfacts⟩ := evD_facts (all.toList.set s (dum o)) 0 [] M0 [] [] π _ _ _ _ _ _ hD hv rfl (Nat.le_refl _) (by simp) (fun j b h => by cases h) (fun m hm => by simp at hm) (by rw [hdlen]; unfold big; omega) (fun id vs hid hg => hM0.cl id vs hg)
  have hfact' : ∀ i o', (all.toList.set s (dum o))[i]? = some o' → OpFact Γ wr tb all.toList (bef all.toList []) fr0 M0.length rs M1 bn i o' := by
    intro i o' ho'
    have := hfacts i o' ho'
    rwa [Nat.zero_add] at this
  have hf : ∀ i o', i ≠ s → all[i]? = some o' → OpFact Γ wr tb all.toList (bef all.toList []) fr0 M0.length rs M1 bn i o' := by
    intro i o' his ho'
    refine hfact' i o' ?_
    rw [List.getElem?_set, if_neg (fun e => his e.symm), Array.getElem?_toList]; exact ho'
  have hfs : OpFact Γ wr tb all.toList (bef all.toList []) fr0 M0.length rs M1 bn s (dum o) := by
    refine hfact' s _ ?_
    rw [List.getElem?_set, if_pos rfl, if_pos (by rw [Array.length_toList]; exact hsl)]
  have hns : ∀ m, bn.getD m big ≠ s := by
    obtain ⟨⟨want, hg, hno, hyes⟩⟩ := hfs
    cases want with
    | false => exact (hno rfl).2
    | true =>
      obtain ⟨base, news, Mk, E, vs, hb0, hb1, hkl, hget, hnw, hborn, hq, -⟩ := hyes rfl
      have : news = [] := by
        simp only [dum, evQ, evS, Option.some.injEq, Prod.mk.injEq] at hq
        exact hq.2.1.symm
      subst this
      intro m e
      have := (hborn m).1 e
      simp only [List.length_nil] at this
      omega
  have hW : RegW all fr0 rs M0 M1 bn all.size := {
    once := honce, back := hback, le := Nat.le_refl _, rsl := by rw [e1]; simp; omega
    mem := fun id hid vs hv => by rwa [e2, List.getElem?_append_left hid] at hv
    mle := by rw [e2, List.length_append]; omega
    bnl := hbn
    bnm := fun k hk => by
      rw [e3] at hk ⊢
      have := (l3 k (by simpa using hk)).2
      simp only [List.nil_append]
      omega
    big := by unfold big; omega
    dst := dstOk_get hdst
    fact := fun i hi => by
      by_cases his : i = s
      · subst his; exact hfs.weak
      · exact (hf i _ his (Array.getElem?_eq_getElem hi)).weak }
  obtain ⟨hE1, hE2, hE3⟩ := evE_ok (all := all.toList) (bs := bef all.toList []) (fr0 := fr0) hδ s M1.length
  refine any_mid H htb hW hc hf hol hop hog hod hbit (fun i o' ho' his => hoth i o' (by rw [Array.getElem?_toList]; exact ho') his) hns hb hE1 hE2 hE3 hx ht hstG hF0 hM0 ?_ all.size _ a0 _ ρ0 (.inl ⟨hrepl s, J_start hF0 rfl hM0 (fun id hid => by rw [e2, List.getElem?_append_left hid]) hW.mle⟩) (hcnt _)
  · intro fuel listed a w ρ hJ hall
    have hFe := frEnd_rel (hW.upd hc (id := id) (b' := b')) hδ hF0 hJ hall (listed_out hJ.lsz) (by rw [e1]; simp; omega)
    rw [show all.toList.take all.size = all.toList from by rw [← Array.length_toList, List.take_length]] at hFe
    have hmk : maskF M0.length bn (fun k => listed.getD k false) (M1.set id b') 0 = M1.set id b' := maskF_all (by rw [List.length_set]; exact hbn) (fun k hk => hall _ (hW.bnm k hk))
    have hA := hJ.aft
    rw [hmk] at hA
    have hq := K a w ρ hA hFe hJ.defs
    have hrd := ready_all hJ.lsz hall
    cases fuel with
    | zero => exact ⟨hrd, hq⟩
    | succ fuel => exact ⟨fun _ => hq, fun j hj => by rw [hrd] at hj; cases hj⟩

theorem evR_sound (H : TabOk P Γ) {tb : FuncId → Option Fun} (htb : TbOk P tb) {wr : Bool} {all : Array Oper} {ρ0 : Rho} {fr0 fr' : List AV} {M0 M' : List Blk} {π π' : List Bool} {a0 : Act} {w0 : World} {vs : List Prop} {id : Nat}
    {Q : Exit → Act → World → Prop} (hF0 : FRel ρ0 M0.length fr0 a0) (hM0 : MRel ρ0 M0 w0) (h : evR Γ wr tb all.toList fr0 M0 π = some (fr', M', π', vs)) (hv : allP vs)
    (K : ∀ a' w' ρ', After ρ0 M0 M' w0 w' ρ' → FRel ρ' M'.length fr' a' → a'.defers = a0.defers → Q .normal a' w') : (Code.region id all true).wp P Q a0 w0 := by
  unfold evR at h
  rw [fBigs_eq] at h
  split at h
  case isFalse => cases h
  rename_i hck
  simp only [Bool.and_eq_true, decide_eq_true_eq, Array.length_toList] at hck
  obtain ⟨⟨⟨honce, hback⟩, hdst⟩, hlen⟩ := hck
  refine wp_region_any H.mixed ?_
  have hcnt : ∀ (l : Array Bool), cnt all.size (fun k => l.getD k false) ≤ all.size := by
    intro l
    have : ∀ n (p : Nat → Bool), cnt n p ≤ n := by
      intro n p
      induction n with
      | zero => exact Nat.le_refl _
      | succ n ih => simp only [cnt]; split <;> omega
    exact this _ _
  have hrepl : ∀ k, (Array.replicate all.size false).getD k false = false := by
    intro k
    rw [Array.getD_eq_getD_getElem?, Array.getElem?_replicate]
    split <;> rfl
  split at h
  · -- a call that writes, and what is done with its answer
    rename_i o1 o2 ht2
    obtain ⟨hn2, hg1, hg2, og1, og2⟩ := tail2_some ht2
    rw [Array.length_toList] at hn2 hg1 hg2
    rw [Array.getElem?_toList] at hg1 hg2
    split at h
    case h_2 => cases h
    rename_i rs Mn bn δ π1 v1 hD
    split at h
    case isFalse => cases h
    rename_i hbits
    rw [Bool.and_eq_true, Array.length_toList] at hbits
    obtain ⟨hb1, hb2⟩ := hbits
    simp only [fL_eq, fM_eq] at h
    split at h
    case h_2 => cases h
    rename_i r1 M1 w1 hO1
    split at h
    case h_2 => cases h
    rename_i r2 M2 w2 hO2
    simp only [fP_eq] at h
    cases h
    rw [allP_app, allP_app] at hv
    obtain ⟨hv1, hvo1, hvo2⟩ := hv
    have htk : (all.toList.take (all.toList.length - 2)).length = all.size - 2 := by rw [List.length_take, Array.length_toList]; omega
    obtain ⟨⟨q1, e1, l1⟩, ⟨q2, e2⟩, ⟨q3, e3, l3⟩, hbn, hδ, hfacts⟩ := evD_facts (all.toList.take (all.toList.length - 2)) 0 [] M0 [] [] π _ _ _ _ _ _ hD hv1 rfl (Nat.le_refl _) (by simp) (fun j b h => by cases h) (fun m hm => by simp at hm) (by rw [htk]; unfold big; omega) (fun id vs hid hg => hM0.cl id vs hg)
    have hR : RegOK Γ wr tb all fr0 rs M0 Mn bn (all.size - 2) := {
      once := honce, back := hback, le := by omega, rsl := by rw [e1]; simp; omega
      mem := fun id hid => by rw [e2, List.getElem?_append_left hid]
      mle := by rw [e2, List.length_append]; omega
      bnl := hbn
      bnm := fun k hk => by
        rw [e3] at hk ⊢
        have := (l3 k (by simpa using hk)).2
        simp only [List.nil_append]
        omega
      big := by unfold big; omega
      dst := dstOk_get hdst
      tailB := fun j hj hjn k hk => by
        rcases (show j = all.size - 2 ∨ j = all.size - 1 by omega) with rfl | rfl
        · exact allBits_get hb1 hk
        · exact allBits_get hb2 (by omega)
      fact := fun i o' hi ho' => by
        have := hfacts i o' (by rw [List.getElem?_take, if_pos (by rw [Array.length_toList]; exact hi), Array.getElem?_toList]; exact ho')
        rwa [Nat.zero_add] at this }
    refine any_quiet H htb hR hF0 hM0 ?_ all.size _ a0 _ ρ0 (J_start hF0 rfl hM0 hR.mem hR.mle) (fun k _ => hrepl k) (hcnt _)
    intro fuel listed a w ρ hJ hall hnt hc
    have hFe := frEnd_rel hR.weak hδ hF0 hJ hall hnt (by rw [e1]; simp; omega)
    rw [← Array.length_toList (xs := all)] at hFe
    have hmk : maskF M0.length bn (fun k => listed.getD k false) Mn 0 = Mn := maskF_all hbn (fun k hk => hall _ (hR.bnm k hk))
    have hA := hJ.aft
    rw [hmk] at hA
    -- only the next one is ready
    have hlt1 : ¬ listed.getD (all.size - 2) false = true := by rw [hnt _ (Nat.le_refl _)]; simp
    cases fuel with
    | zero =>
      exfalso
      exact hlt1 (cnt_zero all.size (fun k => listed.getD k false) (by omega) _ (by omega))
    | succ fuel =>
      refine ⟨fun hn => ?_, fun i hi => ?_⟩
      · exfalso
        exact hlt1 (ready_nil hback hJ.lsz hn _ (by omega))
      obtain ⟨o', ho', hin, hun, hedges⟩ := ready_mem hi
      have hun' : listed.getD i false = false := by
        rw [Array.getD_eq_getD_getElem?, Array.getElem?_eq_getElem (by rw [hJ.lsz]; exact hin)] at hun ⊢
        exact hun
      have hge : all.size - 2 ≤ i := by
        rcases Nat.lt_or_ge i (all.size - 2) with h | h
        · rw [hall i h] at hun'; cases hun'
        · exact h
      have hie : i = all.size - 2 := by
        rcases (show i = all.size - 2 ∨ i = all.size - 1 by omega) with h | h
        · exact h
        · exfalso
          subst h
          obtain ⟨e, he, hb, h⟩ := bef_sound ho' (allBits_get hb2 (show all.size - 2 < all.size - 1 by omega))
          have hl := hedges e he hb
          rcases h with h | h
          · rw [h] at hl; exact hlt1 hl
          · exact hlt1 (hJ.clo e.on hl _ h)
      subst hie
      have e0 : o' = o1 := by rw [hg1] at ho'; cases ho'; rfl
      subst e0
      unfold wpOp
      rw [hg1]
      dsimp only
      have hwn : Region.wanted o' (yielded all a.tmps) = true := by unfold Region.wanted; rw [og1]
      rw [hwn]
      simp only [if_true]
      left
      refine evO_sound H htb (den_op hFe) (ids_op hFe) hA.rel hO1 hvo1 ?_
      intro v w' ρ' hA2 hden hids
      have hF1 := putO (FRel.ext hA2.fmono hFe hA2.ext hA2.len) hden hids o'.dst
      have hA1 := hA.trans hA2
      -- the last one
      have hlz : (listed.setIfInBounds (all.size - 2) true).size = all.size := by rw [Array.size_setIfInBounds]; exact hJ.lsz
      have hl2 : ∀ k, k < all.size - 1 → (listed.setIfInBounds (all.size - 2) true).getD k false = true := fun k hk => by
        rw [listed_set (by rw [hJ.lsz]; exact hin)]
        rcases Nat.lt_or_ge k (all.size - 2) with h | h
        · exact .inl (hall k h)
        · exact .inr (by omega)
      have hlt2 : ¬ (listed.setIfInBounds (all.size - 2) true).getD (all.size - 1) false = true := fun h => by
        rw [listed_set (by rw [hJ.lsz]; exact hin)] at h
        rcases h with h | h
        · rw [hnt _ (by omega)] at h; cases h
        · omega
      have stepT : ∀ (X : Act → World → Prop), (∀ a' w', Q .normal a' w' → X a' w') → wpOp P all Q (all.size - 1) X (a.put o'.dst v) w' := by
        intro X hX
        unfold wpOp
        rw [hg2]
        dsimp only
        have hwn : Region.wanted o2 (yielded all (a.put o'.dst v).tmps) = true := by unfold Region.wanted; rw [og2]
        rw [hwn]
        simp only [if_true]
        left
        refine evO_sound H htb (den_op hF1) (ids_op hF1) hA1.rel hO2 hvo2 ?_
        intro v2 w2 ρ2 hA3 hden2 hids2
        refine hX _ _ (K _ w2 ρ2 (hA1.trans hA3) (putO (FRel.ext hA3.fmono hF1 hA3.ext hA3.len) hden2 hids2 o2.dst) ?_)
        rw [put_defers, put_defers]; exact hJ.defs
      have hrd : Region.ready .any all ((listed.setIfInBounds (all.size - 2) true).setIfInBounds (all.size - 1) true) = [] := by
        refine ready_all (by rw [Array.size_setIfInBounds]; exact hlz) (fun k hk => ?_)
        rw [listed_set (by rw [hlz]; omega)]
        rcases Nat.lt_or_ge k (all.size - 1) with h | h
        · exact .inl (hl2 k h)
        · exact .inr (by omega)
      cases fuel with
      | zero =>
        exfalso
        have := cnt_set all.size (all.size - 2) (fun k => listed.getD k false) (fun k => (listed.setIfInBounds (all.size - 2) true).getD k false) hin hun' (fun k => listed_set (by rw [hJ.lsz]; exact hin) k)
        exact hlt2 (cnt_zero all.size (fun k => (listed.setIfInBounds (all.size - 2) true).getD k false) (by omega) _ (by omega))
      | succ fuel =>
        refine ⟨fun hn => ?_, fun i hi => ?_⟩
        · exfalso
          exact hlt2 (ready_nil hback hlz hn _ (by omega))
        · obtain ⟨o3, ho3, hin3, hun3, -⟩ := ready_mem hi
          have hie : i = all.size - 1 := by
            rcases Nat.lt_or_ge i (all.size - 1) with h | h
            · exfalso
              have := hl2 i h
              rw [Array.getD_eq_getD_getElem?, Array.getElem?_eq_getElem (by rw [hlz]; exact hin3)] at hun3 this
              simp only [Option.getD_some] at hun3 this
              rw [hun3] at this; cases this
            · omega
          subst hie
          refine stepT _ (fun a' w' hq => ?_)
          cases fuel with
          | zero => exact ⟨hrd, hq⟩
          | succ fuel => exact ⟨fun _ => hq, fun j hj => by rw [hrd] at hj; cases hj⟩
  split at h
  · -- the last one writes
    rename_i htl
    split at h
    case h_2 => cases h
    rename_i rs Mn bn δ π1 v1 hD
    split at h
    case isFalse => cases h
    rename_i hbits
    simp only [fL_eq, fM_eq] at h
    split at h
    case h_2 => cases h
    rename_i o hlast
    split at h
    case h_2 => cases h
    rename_i r M2 v2 hO
    simp only [fP_eq] at h
    cases h
    rw [allP_app] at hv
    obtain ⟨hv1, hv2⟩ := hv
    have hne : all.toList ≠ [] := by intro e; rw [e] at hlast; cases hlast
    have hsz : 0 < all.size := by rw [← Array.length_toList]; exact List.length_pos_iff.2 hne
    have hdl : all.toList.dropLast = all.toList.take (all.size - 1) := by rw [List.dropLast_eq_take, Array.length_toList]
    have hol : all[all.size - 1]? = some o := by rw [List.getLast?_eq_getElem?, Array.length_toList, Array.getElem?_toList] at hlast; exact hlast
    have htail : (∀ (l : List Oper) (o : Oper), isTail l = true → l.getLast? = some o → o.guard = .none ∧ o.dst = .none) := by
      intro l
      induction l with
      | nil => intro o h; cases h
      | cons x l ih =>
        intro o h h2
        cases l with
        | nil =>
          simp only [List.getLast?_singleton, Option.some.injEq] at h2
          subst h2
          simp only [isTail, Bool.and_eq_true, Option.isNone_iff_eq_none] at h
          exact ⟨h.1.2, h.2⟩
        | cons y l =>
          rw [List.getLast?_cons_cons] at h2
          exact ih o h h2
    have hog : o.guard = .none := by
      unfold isTail1 at htl
      rw [Bool.or_eq_true] at htl
      rcases htl with htl | htl
      · exact (htail _ o htl hlast).1
      · rw [hlast] at htl
        simp only [Bool.and_eq_true, Option.isNone_iff_eq_none] at htl
        exact htl.2
    obtain ⟨⟨r1, e1, l1⟩, ⟨r2, e2⟩, ⟨r3, e3, l3⟩, hbn, hδ, hfacts⟩ := evD_facts all.toList.dropLast 0 [] M0 [] [] π _ _ _ _ _ _ hD hv1 rfl (Nat.le_refl _) (by simp) (fun j b h => by cases h) (fun m hm => by simp at hm) (by rw [List.length_dropLast, Array.length_toList]; unfold big; omega) (fun id vs hid hg => hM0.cl id vs hg)
    have hdlen : all.toList.dropLast.length = all.size - 1 := by rw [List.length_dropLast, Array.length_toList]
    have hR : RegOK Γ wr tb all fr0 rs M0 Mn bn (all.size - 1) := {
      once := honce, back := hback, le := by omega, rsl := by rw [e1]; simp; omega
      mem := fun id hid => by rw [e2, List.getElem?_append_left hid]
      mle := by rw [e2, List.length_append]; omega
      bnl := hbn
      bnm := fun k hk => by
        rw [e3] at hk ⊢
        have := (l3 k (by simpa using hk)).2
        simp only [List.nil_append]
        omega
      big := by unfold big; omega
      dst := dstOk_get hdst
      tailB := fun j hj hjn k hk => by
        have : j = all.size - 1 := by omega
        subst this
        rw [List.all_eq_true] at hbits
        have := hbits k (List.mem_range.2 (by rw [Array.length_toList]; omega))
        rwa [Array.length_toList] at this
      fact := fun i o' hi ho' => by
        have := hfacts i o' (by rw [hdl, List.getElem?_take, if_pos hi, Array.getElem?_toList]; exact ho')
        rwa [Nat.zero_add] at this }
    refine any_quiet H htb hR hF0 hM0 ?_ all.size _ a0 _ ρ0 (J_start hF0 rfl hM0 hR.mem hR.mle) (fun k _ => hrepl k) (hcnt _)
    intro fuel listed a w ρ hJ hall hnt hc
    have hFe := frEnd_rel hR.weak hδ hF0 hJ hall hnt (by rw [e1]; simp; omega)
    rw [← hdl] at hFe
    have hmk : maskF M0.length bn (fun k => listed.getD k false) Mn 0 = Mn := maskF_all hbn (fun k hk => hall _ (hR.bnm k hk))
    have hA := hJ.aft
    rw [hmk] at hA
    have stepT : ∀ (X : Act → World → Prop), (∀ a' w', Q .normal a' w' → X a' w') → wpOp P all Q (all.size - 1) X a w := by
      intro X hX
      unfold wpOp
      rw [hol]
      dsimp only
      have hwn : Region.wanted o (yielded all a.tmps) = true := by unfold Region.wanted; rw [hog]
      rw [hwn]
      simp only [if_true]
      left
      refine evO_sound H htb (den_op hFe) (ids_op hFe) hA.rel hO hv2 ?_
      intro v w' ρ' hA2 hden hids
      refine hX _ _ (K _ w' ρ' (hA.trans hA2) ?_ ?_)
      · exact putO (FRel.ext hA2.fmono hFe hA2.ext hA2.len) hden hids o.dst
      · rw [put_defers]; exact hJ.defs
    have hlt : ¬ listed.getD (all.size - 1) false = true := by rw [hnt _ (Nat.le_refl _)]; simp
    · cases fuel with
      | zero =>
        exfalso
        exact hlt (cnt_zero all.size (fun k => listed.getD k false) (by omega) _ (by omega))
      | succ fuel =>
        refine ⟨fun hn => ?_, fun i hi => ?_⟩
        · exfalso
          exact hlt (ready_nil hback hJ.lsz hn _ (by omega))
        · obtain ⟨o', ho', hin, hun, -⟩ := ready_mem hi
          have hie : i = all.size - 1 := by
            rcases Nat.lt_or_ge i (all.size - 1) with h | h
            · exfalso
              have := hall i h
              rw [Array.getD_eq_getD_getElem?, Array.getElem?_eq_getElem (by rw [hJ.lsz]; exact hin)] at hun this
              simp only [Option.getD_some] at hun this
              rw [hun] at this; cases this
            · omega
          subst hie
          refine stepT _ (fun a' w' hq => ?_)
          have hrd : Region.ready .any all (listed.setIfInBounds (all.size - 1) true) = [] := by
            refine ready_all (by simp [hJ.lsz]) (fun k hk => ?_)
            rw [listed_set (by rw [hJ.lsz]; exact hin)]
            rcases Nat.lt_or_ge k (all.size - 1) with h | h
            · exact .inl (hall k h)
            · exact .inr (by omega)
          cases fuel with
          | zero => exact ⟨hrd, hq⟩
          | succ fuel => exact ⟨fun _ => hq, fun j hj => by rw [hrd] at hj; cases hj⟩
  · split at h
    · exact evM_sound H htb hF0 hM0 honce hback hdst hlen h hv K
    split at h
    case h_2 => cases h
    rename_i rs Mn bn δ π1 v1 hD
    simp only [fL_eq, fM_eq, fP_eq] at h
    simp only [Option.some.injEq, Prod.mk.injEq] at h
    obtain ⟨rfl, rfl, rfl, rfl⟩ := h
    obtain ⟨⟨r1, e1, l1⟩, ⟨r2, e2⟩, ⟨r3, e3, l3⟩, hbn, hδ, hfacts⟩ := evD_facts all.toList 0 [] M0 [] [] π _ _ _ _ _ _ hD hv rfl (Nat.le_refl _) (by simp) (fun j b h => by cases h) (fun m hm => by simp at hm) (by rw [Array.length_toList]; unfold big; omega) (fun id vs hid hg => hM0.cl id vs hg)
    have hdlen : all.toList.length = all.size := Array.length_toList
    have hR : RegOK Γ wr tb all fr0 rs M0 Mn bn all.size := {
      once := honce, back := hback, le := Nat.le_refl _, rsl := by rw [e1]; simp; omega
      mem := fun id hid => by rw [e2, List.getElem?_append_left hid]
      mle := by rw [e2, List.length_append]; omega
      bnl := hbn
      bnm := fun k hk => by
        rw [e3] at hk ⊢
        have := (l3 k (by simpa using hk)).2
        simp only [List.nil_append]
        omega
      big := by unfold big; omega
      dst := dstOk_get hdst
      tailB := fun j hj hjn => by omega
      fact := fun i o' hi ho' => by
        have := hfacts i o' (by rw [Array.getElem?_toList]; exact ho')
        rwa [Nat.zero_add] at this }
    refine any_quiet H htb hR hF0 hM0 ?_ all.size _ a0 _ ρ0 (J_start hF0 rfl hM0 hR.mem hR.mle) (fun k _ => hrepl k) (hcnt _)
    intro fuel listed a w ρ hJ hall hnt hc
    have hFe := frEnd_rel hR.weak hδ hF0 hJ hall hnt (by rw [e1]; simp; omega)
    rw [← hdlen, List.take_length] at hFe
    have hmk : maskF M0.length bn (fun k => listed.getD k false) Mn 0 = Mn := maskF_all hbn (fun k hk => hall _ (hR.bnm k hk))
    have hA := hJ.aft
    rw [hmk] at hA
    have hq := K a w ρ hA hFe hJ.defs
    have hrd := ready_all hJ.lsz hall
    cases fuel with
    | zero => exact ⟨hrd, hq⟩
    | succ fuel => exact ⟨fun _ => hq, fun j hj => by rw [hrd] at hj; cases hj⟩

end Go.Eng

/- The engine, part 16: the run of a body. No conditions. -/
namespace Go.Eng
open Go Go.RowKit
set_option linter.unusedSectionVars false
variable [Glob]
variable {P : Program} {Γ : Tab}

/-- What the rest of a run does to memory, of which the first m blocks are the caller's. -/
structure AfterM (m : Nat) (ρ : Rho) (M M' : List Blk) (w w' : World) (ρ' : Rho) : Prop where
  ext : ∀ id, id < m → ρ' id = ρ id
  rel : MRel ρ' M' w'
  len : m ≤ M'.length
  dead : ∀ id, id < m → liveAt M' id → liveAt M id
  fresh : ∀ id, m ≤ id → liveAt M' id → w.heap.size ≤ (ρ' id).blk ∨ ∃ i, liveAt M i ∧ (ρ' id).blk = (ρ i).blk
  frame : ∀ b, b < w.heap.size → (∀ id, liveAt M id → (ρ id).blk ≠ b) → w'.heap[b]? = w.heap[b]?
  os : w'.os = w.os
  tape : w'.tape = w.tape
  output : w'.output = w.output
  size : w.heap.size ≤ w'.heap.size
  fmono : ρ.le ρ'
  fnew : ∀ k o, ρ'.F k = some o → ρ.F k = some o ∨ w.heap.size ≤ k ∨ ∃ i, liveAt M i ∧ (ρ i).blk = k

theorem After.comp {m : Nat} {ρ ρ1 ρ2 : Rho} {M M1 M2 : List Blk} {w w1 w2 : World} (hm : m ≤ M.length) (h : After ρ M M1 w w1 ρ1) (k : AfterM m ρ1 M1 M2 w1 w2 ρ2) : AfterM m ρ M M2 w w2 ρ2 where
  ext := fun id hid => (k.ext id hid).trans (h.ext id (by omega))
  rel := k.rel
  len := k.len
  dead := fun id hid hl => h.dead id (by omega) (k.dead id hid hl)
  fresh := fun id hid hl => by
    have hold : ∀ i, liveAt M1 i → w.heap.size ≤ (ρ1 i).blk ∨ ∃ j, liveAt M j ∧ (ρ1 i).blk = (ρ j).blk := by
      intro i hl1
      by_cases hlt : i < M.length
      · exact .inr ⟨i, h.dead i hlt hl1, by rw [h.ext i hlt]⟩
      · rcases h.fresh i (by omega) hl1 with h1 | ⟨j, _, h1, h2⟩
        · exact .inl h1
        · exact .inr ⟨j, h1, h2⟩
    rcases k.fresh id hid hl with h1 | ⟨i, hl1, he⟩
    · exact .inl (Nat.le_trans h.size h1)
    · rw [he]; exact hold i hl1
  frame := fun b hb hn => by
    rw [k.frame b (Nat.lt_of_lt_of_le hb h.size) ?_, h.frame b hb hn]
    intro id hl e
    by_cases hlt : id < M.length
    · rw [h.ext id hlt] at e
      exact hn id (h.dead id hlt hl) e
    · rcases h.fresh id (by omega) hl with h1 | ⟨i, hi, hl1, he⟩
      · omega
      · exact hn i hl1 (by rw [← he, e])
  os := k.os.trans h.os
  tape := k.tape.trans h.tape
  output := k.output.trans h.output
  size := Nat.le_trans h.size k.size
  fmono := Rho.le_trans h.fmono k.fmono
  fnew := fun b o hb => by
    rcases k.fnew b o hb with h1 | h1 | ⟨i, h1, h2⟩
    · exact h.fnew b o h1
    · exact .inr (.inl (Nat.le_trans h.size h1))
    · by_cases hlt : i < M.length
      · rw [h.ext i hlt] at h2
        exact .inr (.inr ⟨i, h.dead i hlt h1, h2⟩)
      · rcases h.fresh i (by omega) h1 with h3 | ⟨j, _, h3, h4⟩
        · exact .inr (.inl (h2 ▸ h3))
        · exact .inr (.inr ⟨j, h3, by rw [← h4, h2]⟩)

theorem AfterM.refl {m : Nat} {ρ : Rho} {M : List Blk} {w : World} (hm : m ≤ M.length) (h : MRel ρ M w) : AfterM m ρ M M w w ρ :=
  ⟨fun _ _ => rfl, h, hm, fun _ _ h => h, fun id _ hl => .inr ⟨id, hl, rfl⟩, fun _ _ _ => rfl, rfl, rfl, rfl, Nat.le_refl _, ρ.le_refl, fun _ _ h => .inl h⟩

/-- From here the function goes on to return so. -/
def Goes (P : Program) (fn : FuncId) (m : Nat) (todo : List Item) (fr : List AV) (M : List Blk) (R : AV → List Blk → Prop) : Prop :=
  ∀ (ρ : Rho) (a : Act) (w : World) (b : Frame) (cs : List Frame), m ≤ M.length → b.fn = fn → b.kind = .normal → FRel ρ M.length fr a → a.defers = [] → MRel ρ M w →
    ∃ v w' fr' ρ' r M', Steps P (lone (b.at a todo) cs w) (lone fr' cs w') ∧ fr'.fn = fn ∧ fr'.leaving P w' (.returned v) ∧ R r M' ∧ Den ρ' r v ∧
      AfterM m ρ M M' w w' ρ' ∧ ∀ i ∈ r.ids, i < M'.length

variable {fn : FuncId} {m : Nat} {R : AV → List Blk → Prop}

theorem Goes.step {todo todo' : List Item} {fr : List AV} {M : List Blk}
    (h : ∀ (b : Frame) (a : Act) (cs : List Frame) (w : World), step P (lone (b.at a todo) cs w) = .next (lone (b.at a todo') cs w)) (g : Goes P fn m todo' fr M R) : Goes P fn m todo fr M R := by
  intro ρ a w b cs hm hb hk hF hd hM
  obtain ⟨v, w', fr', ρ', r, M', hs, hg⟩ := g ρ a w b cs hm hb hk hF hd hM
  exact ⟨v, w', fr', ρ', r, M', .head (h b a cs w) hs, hg⟩

def condP (fr : List AV) (π : List Bool) : Operand → Option (Bool × List AV × List Bool × List Prop)
  | .tmp t => decide1 fr t π
  | .const (.bool b) => some (b, fr, π, [])
  | _ => .none

def stp (Γ : Tab) (wr : Bool) (tb : FuncId → Option Fun) : List Item → List AV → List Blk → List Bool → Option (List Item × List AV × List Blk × List Bool × List Prop)
  | .inBlock _ :: k, fr, M, π => some (k, fr, M, π, [])
  | .code c :: k, fr, M, π => match c with
    | .skip => some (k, fr, M, π, [])
    | .label _ => some (k, fr, M, π, [])
    | .seq x y => some (.code x :: .code y :: k, fr, M, π, [])
    | .block id c => some (.code c :: .inBlock id :: k, fr, M, π, [])
    | .exit id => match exitTo id k with
      | some k' => some (k', fr, M, π, [])
      | .none => .none
    | .goto l => match gotoIn l k with
      | some k' => some (k', fr, M, π, [])
      | .none => .none
    | .cond x c d => match condP fr π x with
      | some (true, fr, π, v) => some (.code c :: k, fr, M, π, v)
      | some (false, fr, π, v) => some (.code d :: k, fr, M, π, v)
      | .none => .none
    | .region _ ops true => match evR Γ wr tb ops.toList fr M π with
      | some (fr, M, π, v) => some (k, fr, M, π, v)
      | .none => .none
    | .region _ ops false => match evOps Γ wr tb ops ops.toList fr M π with
      | some (fr, M, π, v) => some (k, fr, M, π, v)
      | .none => .none
    | _ => .none
  | _, _, _, _ => .none

theorem Goes.region {id : Nat} {ops : Array Oper} {draw : Bool} {k : List Item} {fr fr' : List AV} {M M' : List Blk}
    (h : ∀ (ρ : Rho) (a : Act) (w : World), FRel ρ M.length fr a → MRel ρ M w →
      (Code.region id ops draw).wp P (fun e a' w' => e = .normal ∧ ∃ ρ', After ρ M M' w w' ρ' ∧ FRel ρ' M'.length fr' a' ∧ a'.defers = a.defers) a w)
    (g : Goes P fn m k fr' M' R) : Goes P fn m (.code (.region id ops draw) :: k) fr M R := by
  intro ρ a w b cs hm hb hk hF hd hM
  obtain ⟨e, a', w1, ⟨rfl, ρ1, hA, hF', hd'⟩, harr⟩ := h ρ a w hF hM b k cs
  obtain ⟨v, w', fr2, ρ', r, M2, hs, h1, h2, h3, h4, h5, h6⟩ := g ρ1 a' w1 b cs (Nat.le_trans hm hA.len) hb hk hF' (hd'.trans hd) hA.rel
  exact ⟨v, w', fr2, ρ', r, M2, .trans harr hs, h1, h2, h3, h4, hA.comp hm h5, h6⟩

theorem condP_sound {ρ : Rho} {n : Nat} {fr fr' : List AV} {a : Act} {x : Operand} {π π' : List Bool} {bit : Bool} {v : List Prop} (hF : FRel ρ n fr a) (h : condP fr π x = some (bit, fr', π', v)) (hv : allP v) :
    FRel ρ n fr' a ∧ a.eval x = .bool bit := by
  unfold condP at h
  split at h
  · obtain ⟨h1, h2, -⟩ := decide1_sound hF h hv
    refine ⟨h1, ?_⟩
    rename_i t
    simp only [Act.eval]
    rw [Array.getD_eq_getD_getElem?, h2]; rfl
  · cases h; exact ⟨hF, rfl⟩
  · cases h

theorem Goes.cond {x : Operand} {c d : Code} {k : List Item} {fr fr' : List AV} {M : List Blk} {π π' : List Bool} {bit : Bool} {v : List Prop}
    (h : condP fr π x = some (bit, fr', π', v)) (hv : allP v) (g : Goes P fn m (.code (if bit then c else d) :: k) fr' M R) : Goes P fn m (.code (.cond x c d) :: k) fr M R := by
  intro ρ a w b cs hm hb hk hF hd hM
  obtain ⟨hF', he⟩ := condP_sound hF h hv
  obtain ⟨v, w', fr2, ρ', r, M2, hs, hg⟩ := g ρ a w b cs hm hb hk hF' hd hM
  exact ⟨v, w', fr2, ρ', r, M2, .head (step_cond he) hs, hg⟩

theorem stp_sound (H : TabOk P Γ) {tb : FuncId → Option Fun} (htb : TbOk P tb) {wr : Bool} {todo todo' : List Item} {fr fr' : List AV} {M M' : List Blk} {π π' : List Bool} {v : List Prop}
    (h : stp Γ wr tb todo fr M π = some (todo', fr', M', π', v)) (hv : allP v) (g : Goes P fn m todo' fr' M' R) : Goes P fn m todo fr M R := by
  unfold stp at h
  split at h
  · cases h; exact g.step fun b a cs w => step_inBlock
  · split at h
    · cases h; exact g.step fun b a cs w => step_skip
    · cases h; exact g.step fun b a cs w => step_label
    · cases h; exact g.step fun b a cs w => step_seq
    · cases h; exact g.step fun b a cs w => step_block
    · split at h
      · rename_i he; cases h; exact g.step fun b a cs w => step_exit he
      · cases h
    · split at h
      · rename_i he; cases h; exact g.step fun b a cs w => step_goto he
      · cases h
    · split at h
      · rename_i he; cases h; exact Goes.cond he hv g
      · rename_i he; cases h; exact Goes.cond he hv g
      · cases h
    · split at h
      · rename_i he
        cases h
        refine Goes.region (fun ρ a w hF hM => ?_) g
        exact evR_sound H htb hF hM he hv fun a' w' ρ' h1 h2 h3 => ⟨rfl, ρ', h1, h2, h3⟩
      · cases h
    · split at h
      · rename_i he
        cases h
        refine Goes.region (fun ρ a w hF hM => ?_) g
        exact wp_region_list (evOps_sound H htb _ ρ fr M π a w _ _ _ _ hF hM he hv fun a' w' ρ' h1 h2 h3 => ⟨rfl, ρ', h1, h2, h3⟩)
      · cases h
    · cases h
  · cases h

def run (Γ : Tab) (wr : Bool) (tb : FuncId → Option Fun) : Nat → List Item → List AV → List Blk → List Bool → List Prop → Option (List Item × List AV × List Blk × List Prop)
  | 0, todo, fr, M, _, vs => some (todo, fr, M, vs)
  | n + 1, todo, fr, M, π, vs => match todo with
    | [] => some ([], fr, M, vs)
    | .code .ret :: k => some (.code .ret :: k, fr, M, vs)
    | .code (.loop c) :: k => some (.code c :: .inLoop c :: k, fr, M, vs)
    | .inLoop c :: k => some (.code c :: .inLoop c :: k, fr, M, vs)
    | x :: k => match stp Γ wr tb (x :: k) fr M π with
      | some (todo', fr', M', π', v) => fP (vs ++ v) fun vs => run Γ wr tb n todo' fr' M' π' vs
      | .none => .none

theorem run_sound (H : TabOk P Γ) {tb : FuncId → Option Fun} (htb : TbOk P tb) {wr : Bool} : ∀ (n : Nat) {todo todo' : List Item} {fr fr' : List AV} {M M' : List Blk} {π : List Bool} {vs vs' : List Prop},
    run Γ wr tb n todo fr M π vs = some (todo', fr', M', vs') → allP vs' → (Goes P fn m todo' fr' M' R → Goes P fn m todo fr M R) ∧ allP vs := by
  intro n
  induction n with
  | zero => intro todo todo' fr fr' M M' π vs vs' h hv; cases h; exact ⟨id, hv⟩
  | succ n ih =>
    intro todo todo' fr fr' M M' π vs vs' h hv
    unfold run at h
    split at h
    · cases h; exact ⟨id, hv⟩
    · cases h; exact ⟨id, hv⟩
    · cases h; exact ⟨fun g => g.step fun b a cs w => step_loop, hv⟩
    · cases h; exact ⟨fun g => g.step fun b a cs w => step_inLoop, hv⟩
    · split at h
      · rename_i he
        rw [fP_eq] at h
        obtain ⟨h1, h2⟩ := ih h hv
        rw [allP_app] at h2
        exact ⟨fun g => stp_sound H htb he h2.2 (h1 g), h2.1⟩
      · cases h

theorem Goes.run (H : TabOk P Γ) {tb : FuncId → Option Fun} (htb : TbOk P tb) (n : Nat) (wr : Bool) (π : List Bool) {todo todo' : List Item} {fr fr' : List AV} {M M' : List Blk} {vs : List Prop}
    (h : Eng.run Γ wr tb n todo fr M π [] = some (todo', fr', M', vs)) (hv : allP vs) (g : Goes P fn m todo' fr' M' R) : Goes P fn m todo fr M R :=
  (run_sound H htb n h hv).1 g

def evRes1 (Γ : Tab) (fr : List AV) (M : List Blk) : ResultVar → Option AV
  | .tmp t => some (fr.getD t .any)
  | .cell x t => match fr.getD x .any with
    | .pw id σ => if Γ.sg t = σ ∧ σ ≠ .none then loadW M id σ else .none
    | .p id off σ => if Γ.sg t = σ ∧ σ ≠ .none then loadAV M id off σ else .none
    | _ => .none

def evResL (Γ : Tab) (fr : List AV) (M : List Blk) : List ResultVar → Option (List AV)
  | [] => some []
  | x :: l => match evRes1 Γ fr M x with
    | some r => match evResL Γ fr M l with
      | some rs => fAV r fun r => some (r :: rs)
      | .none => .none
    | .none => .none

def tupAV : List AV → Option AV
  | [] => some (.v (.tuple #[]))
  | [x] => some x
  | [x, y] => some (.t2 x y)
  | [x, y, z] => some (.t3 x y z)
  | [x, y, z, u] => some (.t4 x y z u)
  | _ => .none

theorem evRes1_sound (H : TabOk P Γ) {ρ : Rho} {fr : List AV} {M : List Blk} {a : Act} {w : World} {x : ResultVar} {r : AV} (hF : FRel ρ M.length fr a) (hM : MRel ρ M w) (h : evRes1 Γ fr M x = some r) :
    ∃ v, (match x with
      | .tmp t => pure (a.tmps.getD t undef)
      | .cell y t => do loadVar t (← asAddr (a.tmps.getD y undef)) : Sem Value).run P w = .ok v w ∧ Den ρ r v ∧ ∀ i ∈ r.ids, i < M.length := by
  cases x with
  | tmp t => cases h; exact ⟨_, rfl, hF.den t, hF.ids t⟩
  | cell y t =>
    have hd := hF.den y
    simp only [evRes1] at h
    split at h
    · rename_i id σ e
      rw [e] at hd
      obtain ⟨hd, hp, hs⟩ := hd
      split at h
      · rename_i hc
        have hl := loadW_eq hM (hs) h
        obtain ⟨v, h1, h2⟩ := load_sound H hM hc.1 hc.2 hp hl
        exact ⟨v, by simp [hd, asAddr, h2], h1, load_ids hM hl⟩
      · cases h
    · rename_i id off σ e
      rw [e] at hd
      obtain ⟨hd, hp⟩ := hd
      split at h
      · rename_i hc
        obtain ⟨v, h1, h2⟩ := load_sound H hM hc.1 hc.2 hp h
        exact ⟨v, by simp [hd, asAddr, h2], h1, load_ids hM h⟩
      · cases h
    · cases h

end Go.Eng

/- The engine, part 17: what a function returns. No conditions. -/
namespace Go.Eng
open Go Go.RowKit
set_option linter.unusedSectionVars false
variable [Glob]
variable {P : Program} {Γ : Tab} {fn : FuncId} {m : Nat} {R : AV → List Blk → Prop}

def resOf (tmps : Array Value) : ResultVar → Sem Value
  | .tmp t => pure (tmps.getD t undef)
  | .cell y t => do loadVar t (← asAddr (tmps.getD y undef))

theorem results_eq (f : Func) (tmps : Array Value) : results f tmps = (do
    let vs ← f.results.mapM (resOf tmps)
    pure (if h : vs.size = 1 then vs[0] else .tuple vs)) := rfl

theorem evResL_sound (H : TabOk P Γ) {ρ : Rho} {fr : List AV} {M : List Blk} {a : Act} {w : World} (hF : FRel ρ M.length fr a) (hM : MRel ρ M w) :
    ∀ {l : List ResultVar} {rs : List AV}, evResL Γ fr M l = some rs →
    ∃ vs, (l.mapM (resOf a.tmps)).run P w = .ok vs w ∧ Dens ρ rs vs ∧ ∀ r ∈ rs, ∀ i ∈ r.ids, i < M.length := by
  intro l
  induction l with
  | nil => intro rs h; cases h; exact ⟨[], by simp [List.mapM_nil], trivial, fun r hr => by cases hr⟩
  | cons x l ih =>
    intro rs h
    simp only [evResL] at h
    split at h
    · rename_i r h1
      split at h
      · rename_i rs' h2
        rw [fAV_eq] at h
        cases h
        obtain ⟨v, hv, hd, hi⟩ := evRes1_sound H hF hM h1
        obtain ⟨vs, hvs, hds, his⟩ := ih h2
        refine ⟨v :: vs, ?_, ⟨hd, hds⟩, ?_⟩
        · rw [List.mapM_cons, Sem.run_bind]
          have hv' : (resOf a.tmps x).run P w = .ok v w := by
            rw [← hv]; cases x <;> rfl
          rw [hv']
          simp only [Result.andThen_ok]
          rw [Sem.run_bind, hvs]
          rfl
        · intro r' hr'
          rcases List.mem_cons.1 hr' with rfl | h'
          · exact hi
          · exact his r' h'
      · cases h
    · cases h

theorem tup_sound {ρ : Rho} {n : Nat} {rs : List AV} {vs : List Value} {r : AV} (h : tupAV rs = some r) (hd : Dens ρ rs vs) (hi : ∀ r ∈ rs, ∀ i ∈ r.ids, i < n) :
    Den ρ r (if h : vs.toArray.size = 1 then vs.toArray[0] else .tuple vs.toArray) ∧ ∀ i ∈ r.ids, i < n := by
  match rs, vs, hd with
  | [], [], _ => cases h; exact ⟨rfl, fun i hi => by cases hi⟩
  | [x], [v], hd => cases h; exact ⟨hd.1, hi r (by simp)⟩
  | [x, y], [v, u], hd =>
    cases h
    refine ⟨⟨v, u, rfl, hd.1, hd.2.1⟩, fun i h' => ?_⟩
    simp only [AV.ids, List.mem_append] at h'
    rcases h' with h' | h'
    · exact hi x (by simp) i h'
    · exact hi y (by simp) i h'
  | [x, y, z], [v, u, t], hd =>
    cases h
    refine ⟨⟨v, u, t, rfl, hd.1, hd.2.1, hd.2.2.1⟩, fun i h' => ?_⟩
    simp only [AV.ids, List.mem_append] at h'
    rcases h' with (h' | h') | h'
    · exact hi x (by simp) i h'
    · exact hi y (by simp) i h'
    · exact hi z (by simp) i h'
  | [x, y, z, q], [v, u, t, s], hd =>
    cases h
    refine ⟨⟨v, u, t, s, rfl, hd.1, hd.2.1, hd.2.2.1, hd.2.2.2.1⟩, fun i h' => ?_⟩
    simp only [AV.ids, List.mem_append] at h'
    rcases h' with ((h' | h') | h') | h'
    · exact hi x (by simp) i h'
    · exact hi y (by simp) i h'
    · exact hi z (by simp) i h'
    · exact hi q (by simp) i h'
  | _ :: _ :: _ :: _ :: _ :: _, _, _ => cases h

theorem results_sound (H : TabOk P Γ) {ρ : Rho} {fr : List AV} {M : List Blk} {a : Act} {w : World} (hF : FRel ρ M.length fr a) (hM : MRel ρ M w) {f : Func} {rs : List AV} {r : AV}
    (h : evResL Γ fr M f.results.toList = some rs) (ht : tupAV rs = some r) :
    ∃ v, (results f a.tmps).run P w = .ok v w ∧ Den ρ r v ∧ ∀ i ∈ r.ids, i < M.length := by
  obtain ⟨vs, hvs, hd, hi⟩ := evResL_sound H hF hM h
  obtain ⟨h1, h2⟩ := tup_sound ht hd hi
  refine ⟨_, ?_, h1, h2⟩
  rw [results_eq, Array.mapM_eq_mapM_toList, Sem.run_bind]
  have : ((List.toArray <$> List.mapM (resOf a.tmps) f.results.toList).run P w) = .ok vs.toArray w := by
    rw [← bind_pure_comp, Sem.run_bind, hvs]; rfl
  rw [this]
  rfl

theorem Goes.ret (H : TabOk P Γ) {f : Func} (hf : P.funcs[fn]? = some f) {k : List Item} {fr : List AV} {M : List Blk} {rs : List AV} {r : AV}
    (h : evResL Γ fr M f.results.toList = some rs) (ht : tupAV rs = some r) (hR : R r M) : Goes P fn m (.code .ret :: k) fr M R := by
  intro ρ a w b cs hm0 hb hk hF hd hM
  obtain ⟨v, h1, h2, h3⟩ := results_sound H hF hM h ht
  exact ⟨v, w, _, ρ, r, M, .one step_ret, hb, ⟨rfl, hd, hk, f, by rw [← hb] at hf; exact hf, h1⟩, hR, h2, AfterM.refl hm0 hM, h3⟩

theorem Goes.fall (H : TabOk P Γ) {f : Func} (hf : P.funcs[fn]? = some f) {fr : List AV} {M : List Blk} {rs : List AV} {r : AV}
    (h : evResL Γ fr M f.results.toList = some rs) (ht : tupAV rs = some r) (hR : R r M) : Goes P fn m [] fr M R := by
  intro ρ a w b cs hm0 hb hk hF hd hM
  obtain ⟨v, h1, h2, h3⟩ := results_sound H hF hM h ht
  exact ⟨v, w, _, ρ, r, M, .one step_end, hb, ⟨rfl, hd, hk, f, by rw [← hb] at hf; exact hf, h1⟩, hR, h2, AfterM.refl hm0 hM, h3⟩

/-- What is not needed any more is forgotten. -/
def same1 : AV → AV → Prop
  | .b p, .d q => p = q
  | .b p, .b q => p = q
  | .i k m, .i k' n => k = k' ∧ m = n
  | .ag σ xs, .ag τ ys => σ = τ ∧ xs = ys
  | .fs σ xs, .fs τ ys => σ = τ ∧ xs = ys
  | .fz σ xs, .fz τ ys => σ = τ ∧ xs = ys
  | .ow id len σ e, .ow id' len' σ' e' => id = id' ∧ len = len' ∧ σ = σ' ∧ e = e'
  | .s x, .s y => x = y
  | x, y => x = y

def sameA : AV → AV → Prop
  | .t2 x y, .t2 x' y' => same1 x x' ∧ same1 y y'
  | .t3 x y z, .t3 x' y' z' => same1 x x' ∧ same1 y y' ∧ same1 z z'
  | .t4 x y z u, .t4 x' y' z' u' => same1 x x' ∧ same1 y y' ∧ same1 z z' ∧ same1 u u'
  | x, y => same1 x y

theorem same1_refl (x : AV) : same1 x x := by cases x <;> simp [same1]

theorem sameA_refl (x : AV) : sameA x x := by
  cases x <;> simp only [sameA, same1_refl, and_self] <;> exact same1_refl _

theorem same1_den {ρ : Rho} {x y : AV} {v : Value} (h : same1 x y) (hd : Den ρ y v) : Den ρ x v := by
  unfold same1 at h
  split at h
  · subst h; exact hd
  · subst h; exact hd
  · obtain ⟨rfl, rfl⟩ := h; exact hd
  · obtain ⟨rfl, rfl⟩ := h; exact hd
  · obtain ⟨rfl, rfl⟩ := h; exact hd
  · obtain ⟨rfl, rfl⟩ := h; exact hd
  · obtain ⟨rfl, rfl, rfl, rfl⟩ := h; exact hd
  · subst h; exact hd
  · subst h; exact hd

theorem same1_ids {x y : AV} (h : same1 x y) : x.ids = y.ids := by
  unfold same1 at h
  split at h
  · rfl
  · rfl
  · rfl
  · rfl
  · rfl
  · rfl
  · obtain ⟨rfl, -⟩ := h; rfl
  · rfl
  · rw [h]

theorem sameA_den {ρ : Rho} {x y : AV} {v : Value} (h : sameA x y) (hd : Den ρ y v) : Den ρ x v := by
  unfold sameA at h
  split at h
  · obtain ⟨a, b, e, h1, h2⟩ := hd; exact ⟨a, b, e, same1_den h.1 h1, same1_den h.2 h2⟩
  · obtain ⟨a, b, c, e, h1, h2, h3⟩ := hd; exact ⟨a, b, c, e, same1_den h.1 h1, same1_den h.2.1 h2, same1_den h.2.2 h3⟩
  · obtain ⟨a, b, c, d, e, h1, h2, h3, h4⟩ := hd; exact ⟨a, b, c, d, e, same1_den h.1 h1, same1_den h.2.1 h2, same1_den h.2.2.1 h3, same1_den h.2.2.2 h4⟩
  · exact same1_den h hd

theorem sameA_ids {x y : AV} (h : sameA x y) : x.ids = y.ids := by
  unfold sameA at h
  split at h
  · simp only [AV.ids]; rw [same1_ids h.1, same1_ids h.2]
  · simp only [AV.ids]; rw [same1_ids h.1, same1_ids h.2.1, same1_ids h.2.2]
  · simp only [AV.ids]; rw [same1_ids h.1, same1_ids h.2.1, same1_ids h.2.2.1, same1_ids h.2.2.2]
  · exact same1_ids h

def leA : AV → AV → Prop
  | .any, _ => True
  | x, y => sameA x y

def leF : List AV → List AV → Prop
  | [], [] => True
  | x :: l, y :: l' => leA x y ∧ leF l l'
  | _, _ => False

def leB : Blk → Blk → Prop
  | .dead, _ => True
  | x, y => x = y

def leM : List Blk → List Blk → Prop
  | [], [] => True
  | x :: l, y :: l' => leB x y ∧ leM l l'
  | _, _ => False

theorem leF_len : ∀ {l l' : List AV}, leF l l' → l.length = l'.length
  | [], [], _ => rfl
  | _ :: _, _ :: _, h => by simp [leF_len h.2]
  | [], _ :: _, h => h.elim
  | _ :: _, [], h => h.elim

theorem leM_len : ∀ {l l' : List Blk}, leM l l' → l.length = l'.length
  | [], [], _ => rfl
  | _ :: _, _ :: _, h => by simp [leM_len h.2]
  | [], _ :: _, h => h.elim
  | _ :: _, [], h => h.elim

theorem leF_get : ∀ {l l' : List AV}, leF l l' → ∀ t, l.getD t .any = .any ∨ sameA (l.getD t .any) (l'.getD t .any)
  | [], [], _, _ => .inl rfl
  | x :: _, y :: _, h, 0 => by
    have := h.1
    simp only [List.getD_cons_zero]
    cases x
    case any => exact .inl rfl
    all_goals exact .inr this
  | _ :: _, _ :: _, h, t + 1 => by simpa using leF_get h.2 t
  | [], _ :: _, h, _ => h.elim
  | _ :: _, [], h, _ => h.elim

theorem leM_get : ∀ {l l' : List Blk}, leM l l' → ∀ (t : Nat) (b : Blk), l[t]? = some b → b = .dead ∨ l'[t]? = some b
  | x :: _, y :: _, h, 0, b, hb => by
    have := h.1
    simp only [List.getElem?_cons_zero, Option.some.injEq] at hb
    subst hb
    cases x <;> simp_all [leB]
  | _ :: _, _ :: _, h, t + 1, b, hb => by simpa using leM_get h.2 t b (by simpa using hb)
  | [], _, _, _, _, hb => by simp at hb
  | _ :: _, [], h, _, _, _ => h.elim

theorem leM_live {l l' : List Blk} (h : leM l l') {i : Nat} (hl : liveAt l i) : liveAt l' i := by
  obtain ⟨b, hb, hlv⟩ := hl
  rcases leM_get h i b hb with rfl | h'
  · cases hlv
  · exact ⟨b, h', hlv⟩

theorem After.weak {ρ : Rho} {M' M : List Blk} {w : World} (h : leM M' M) (hM : MRel ρ M w) : After ρ M M' w w ρ where
  ext := fun _ _ => rfl
  rel := {
    blk := fun id b hb => by
      rcases leM_get h id b hb with rfl | h'
      · trivial
      · exact hM.blk id b h'
    inj := fun i j hi hj e => hM.inj i j (leM_live h hi) (leM_live h hj) e
    cl := fun id vs hid x hx i hi => by
      rcases leM_get h id _ hid with h' | h'
      · cases h'
      · rw [leM_len h]; exact hM.cl id vs h' x hx i hi
    env := fun k o hk => ⟨(hM.env k o hk).1, fun i hi => (hM.env k o hk).2 i (leM_live h hi)⟩ }
  len := Nat.le_of_eq (leM_len h).symm
  dead := fun _ _ hl => leM_live h hl
  fresh := fun id hid hl => by have := (leM_live h hl).lt; omega
  frame := fun _ _ _ => rfl
  os := rfl
  tape := rfl
  output := rfl
  size := Nat.le_refl _
  fmono := ρ.le_refl
  fnew := fun _ _ h => .inl h

theorem Goes.weak {todo : List Item} {fr fr' : List AV} {M M' : List Blk} (hf : leF fr' fr) (hm : leM M' M) (g : Goes P fn m todo fr' M' R) : Goes P fn m todo fr M R := by
  intro ρ a w b cs hm0 hb hk hF hd hM
  have hA := After.weak hm hM
  have hF' : FRel ρ M'.length fr' a := by
    refine ⟨by rw [leF_len hf]; exact hF.size, fun t => ?_, fun t => ?_⟩
    · rcases leF_get hf t with h | h
      · rw [h]; trivial
      · exact sameA_den h (hF.den t)
    · rcases leF_get hf t with h | h
      · rw [h]; simp [AV.ids]
      · rw [sameA_ids h, leM_len hm]; exact hF.ids t
  obtain ⟨v, w', fr2, ρ', r, M2, hs, h1, h2, h3, h4, h5, h6⟩ := g ρ a w b cs (Nat.le_trans hm0 hA.len) hb hk hF' hd hA.rel
  exact ⟨v, w', fr2, ρ', r, M2, hs, h1, h2, h3, h4, hA.comp hm0 h5, h6⟩

/-- A loop's rule: a measure falls. -/
theorem Goes.loop {ι : Type} (μ : ι → Nat) (I : ι → Prop) {todo : List Item} {fr : ι → List AV} {M : ι → List Blk} {S : ι → AV → List Blk → Prop}
    (h : ∀ i, I i → (∀ j, I j → μ j < μ i → Goes P fn m todo (fr j) (M j) (S j)) → Goes P fn m todo (fr i) (M i) (S i)) : ∀ i, I i → Goes P fn m todo (fr i) (M i) (S i) := by
  intro i
  induction hn : μ i using Nat.strongRecOn generalizing i with
  | _ n ih =>
    intro hi
    exact h i hi fun j hj hlt => ih (μ j) (hn ▸ hlt) j rfl hj

theorem Goes.mono {todo : List Item} {fr : List AV} {M : List Blk} {R' : AV → List Blk → Prop} (hR : ∀ r M', R r M' → R' r M') (g : Goes P fn m todo fr M R) : Goes P fn m todo fr M R' := by
  intro ρ a w b cs hm0 hb hk hF hd hM
  obtain ⟨v, w', fr2, ρ', r, M2, hs, h1, h2, h3, h4, h5, h6⟩ := g ρ a w b cs hm0 hb hk hF hd hM
  exact ⟨v, w', fr2, ρ', r, M2, hs, h1, h2, hR _ _ h3, h4, h5, h6⟩

end Go.Eng

/- The engine, part 18: from a body's run to what is told of the function. No conditions. -/
namespace Go.Eng
open Go Go.RowKit
set_option linter.unusedSectionVars false
variable [Glob]
variable {P : Program} {Γ : Tab} {R : AV → List Blk → Prop}

/-- The blocks that the caller is told of are those of the list, renumbered. -/
def finB (σ : List Nat) (N : List Blk) : Nat → List Blk → Prop
  | _, [] => True
  | j, b :: l => (match b with
    | .dead => True
    | b => N[σ.getD j 0]? = some (b.mapI fun i => σ.getD i 0)) ∧ finB σ N (j + 1) l

def closedB (M : List Blk) : Bool := M.all fun b => match b with
  | .r vs => vs.all fun x => x.ids.all fun i => decide (i < M.length)
  | _ => true

structure Fin (σ : List Nat) (m : Nat) (r' : AV) (N : List Blk) (r : AV) (M' : List Blk) : Prop where
  len : σ.length = M'.length
  le : m ≤ M'.length
  take : σ.take m = List.range m
  nodup : nodupB σ = true
  res : sameA (r.mapI (fun i => σ.getD i 0)) r'
  blks : finB σ N 0 M'
  ids : (r.ids.all fun i => decide (i < M'.length)) = true
  closed : closedB M' = true

theorem finB_get {σ : List Nat} {N : List Blk} : ∀ {l : List Blk} {k : Nat}, finB σ N k l → ∀ (j : Nat) (b : Blk), l[j]? = some b → b = .dead ∨ N[σ.getD (k + j) 0]? = some (b.mapI fun i => σ.getD i 0)
  | b :: l, k, h, 0, b', hb => by
    simp only [List.getElem?_cons_zero, Option.some.injEq] at hb
    subst hb
    have := h.1
    cases b with
    | dead => exact .inl rfl
    | _ => exact .inr this
  | b :: l, k, h, j + 1, b', hb => by
    have := finB_get h.2 j b' (by simpa using hb)
    rwa [show k + 1 + j = k + (j + 1) from by omega] at this
  | [], _, _, _, _, hb => by simp at hb

theorem Fin.after {σ : List Nat} {r' r : AV} {N M' M : List Blk} (h : Fin σ M.length r' N r M') {ρ ρ1 : Rho} {w w' : World} (hA : AfterM M.length ρ M N w w' ρ1) :
    After ρ M M' w w' (ρ1.ren fun i => σ.getD i 0) := by
  have hid : ∀ i, i < M.length → σ.getD i 0 = i := by
    intro i hi
    have h1 : (σ.take M.length)[i]? = some i := by rw [h.take, List.getElem?_range hi]
    rw [List.getElem?_take_of_lt hi] at h1
    rw [List.getD_eq_getElem?_getD, h1]; rfl
  have hlive : ∀ i, liveAt M' i → liveAt N (σ.getD i 0) := by
    rintro i ⟨b, hb, hl⟩
    rcases finB_get h.blks i b hb with rfl | h'
    · cases hl
    · rw [Nat.zero_add] at h'
      exact ⟨_, h', by rw [live_mapI]; exact hl⟩
  have hinj := nodupB_inj σ h.nodup
  refine ⟨fun id hid' => by simp only [Rho.ren, hid id hid']; exact hA.ext id hid', ⟨?_, ?_, ?_, fun k o hk => ⟨(hA.rel.env k o hk).1, fun i hi => (hA.rel.env k o hk).2 _ (hlive i hi)⟩⟩, h.le, ?_, ?_, hA.frame, hA.os, hA.tape, hA.output, hA.size, hA.fmono, hA.fnew⟩
  · intro j b hb
    rcases finB_get h.blks j b hb with rfl | h'
    · trivial
    · rw [Nat.zero_add] at h'
      have := hA.rel.blk _ _ h'
      exact (brel_mapI (f := fun i => σ.getD i 0)).1 this
  · intro i j hi hj e
    exact hinj i j (by rw [h.len]; exact hi.lt) (by rw [h.len]; exact hj.lt) (hA.rel.inj _ _ (hlive i hi) (hlive j hj) e)
  · intro id vs hid x hx i hi
    have := List.all_eq_true.1 h.closed _ (List.mem_of_getElem? hid)
    simp only at this
    have := List.all_eq_true.1 this x hx
    have := List.all_eq_true.1 this i hi
    exact of_decide_eq_true this
  · intro id hlt hl
    have := hlive id hl
    rw [hid id hlt] at this
    exact hA.dead id hlt this
  · intro id hge hl
    have h1 := hlive id hl
    refine (hA.fresh _ ?_ h1).imp_right fun ⟨i, g1, g2⟩ => ⟨i, g1.lt, g1, g2⟩
    rcases Nat.lt_or_ge (σ.getD id 0) M.length with h2 | h2
    · exfalso
      have := hinj id (σ.getD id 0) (by rw [h.len]; exact hl.lt) (by rw [h.len]; exact Nat.lt_of_lt_of_le h2 h.le) (hid _ h2).symm
      rw [← this] at h2
      omega
    · exact h2

/-- At a loop's head: memory is renumbered, and what is not reached is dropped. -/
theorem Goes.renum {fn : FuncId} {m : Nat} {todo : List Item} {fr fr' : List AV} {M M' : List Blk} (σ : List Nat) (h1 : σ.length = M'.length) (h2 : σ.take m = List.range m) (h3 : nodupB σ = true)
    (hf : leF (fr'.map (AV.mapI fun i => σ.getD i 0)) fr) (hb : finB σ M 0 M') (hi : (fr'.all fun x => x.ids.all fun i => decide (i < M'.length)) = true) (hc : closedB M' = true) (hm' : m ≤ M'.length)
    (g : Goes P fn m todo fr' M' R) : Goes P fn m todo fr M R := by
  intro ρ a w b cs hm0 hbf hk hF hd hM
  have hid : ∀ i, i < m → σ.getD i 0 = i := by
    intro i hi
    have h1 : (σ.take m)[i]? = some i := by rw [h2, List.getElem?_range hi]
    rw [List.getElem?_take_of_lt hi] at h1
    rw [List.getD_eq_getElem?_getD, h1]; rfl
  have hlive : ∀ i, liveAt M' i → liveAt M (σ.getD i 0) := by
    rintro i ⟨b, hb', hl⟩
    rcases finB_get hb i b hb' with rfl | h'
    · cases hl
    · rw [Nat.zero_add] at h'
      exact ⟨_, h', by rw [live_mapI]; exact hl⟩
  have hinj := nodupB_inj σ h3
  have hM' : MRel (ρ.ren fun i => σ.getD i 0) M' w := by
    refine ⟨?_, ?_, ?_, fun k o hk => ⟨(hM.env k o hk).1, fun i hi => (hM.env k o hk).2 _ (hlive i hi)⟩⟩
    · intro j b hb'
      rcases finB_get hb j b hb' with rfl | h'
      · trivial
      · rw [Nat.zero_add] at h'
        exact (brel_mapI (f := fun i => σ.getD i 0)).1 (hM.blk _ _ h')
    · intro i j hi hj e
      exact hinj i j (by rw [h1]; exact hi.lt) (by rw [h1]; exact hj.lt) (hM.inj _ _ (hlive i hi) (hlive j hj) e)
    · intro id vs hid x hx i hi
      have := List.all_eq_true.1 hc _ (List.mem_of_getElem? hid)
      simp only at this
      have := List.all_eq_true.1 this x hx
      exact of_decide_eq_true (List.all_eq_true.1 this i hi)
  have hget : ∀ t, (fr'.map (AV.mapI fun i => σ.getD i 0)).getD t .any = (fr'.getD t .any).mapI fun i => σ.getD i 0 := by
    intro t
    rw [List.getD_eq_getElem?_getD, List.getD_eq_getElem?_getD, List.getElem?_map]
    cases fr'[t]? <;> rfl
  have hF' : FRel (ρ.ren fun i => σ.getD i 0) M'.length fr' a := by
    refine ⟨by rw [hF.size, ← leF_len hf, List.length_map], fun t => ?_, fun t i hi' => ?_⟩
    · have := leF_get hf t
      rw [hget] at this
      rw [← den_mapI ρ (fun i => σ.getD i 0)]
      rcases this with h | h
      · rw [h]; trivial
      · exact sameA_den h (hF.den t)
    · rcases Nat.lt_or_ge t fr'.length with h | h
      · rw [List.getD_eq_getElem?_getD, List.getElem?_eq_getElem h] at hi'
        exact of_decide_eq_true (List.all_eq_true.1 (List.all_eq_true.1 hi _ (List.getElem_mem h)) i hi')
      · rw [List.getD_eq_getElem?_getD, List.getElem?_eq_none h] at hi'
        cases hi'
  obtain ⟨v, w', fr2, ρ', r, M2, hs, g1, g2, g3, g4, g5, g6⟩ := g _ a w b cs hm' hbf hk hF' hd hM'
  refine ⟨v, w', fr2, ρ', r, M2, hs, g1, g2, g3, g4, ⟨fun id hid' => by rw [g5.ext id hid']; simp only [Rho.ren, hid id hid'], g5.rel, g5.len, fun id hid' hl => ?_, fun id hid' hl => ?_, fun b hb hn => g5.frame b hb fun id hl => hn _ (hlive id hl), g5.os, g5.tape, g5.output, g5.size, g5.fmono, fun k o hk => (g5.fnew k o hk).imp_right (Or.imp_right fun ⟨i, q1, q2⟩ => ⟨_, hlive i q1, q2⟩)⟩, g6⟩
  · have := hlive id (g5.dead id hid' hl)
    rwa [hid id hid'] at this
  · exact (g5.fresh id hid' hl).imp_right fun ⟨i, q1, q2⟩ => ⟨_, hlive i q1, q2⟩

theorem undefs (n : Nat) : Array.replicate n undef = (List.replicate n undef).toArray := by simp

theorem dens_len {ρ : Rho} : ∀ {l : List AV} {r : List Value}, Dens ρ l r → l.length = r.length
  | [], [], _ => rfl
  | [], _ :: _, h => h.elim
  | _ :: _, [], h => h.elim
  | _ :: _, _ :: _, h => by simp [dens_len h.2]

theorem dens_get {ρ : Rho} : ∀ {l : List AV} {r : List Value}, Dens ρ l r → ∀ t, t < l.length → Den ρ (l.getD t .any) (r.getD t undef)
  | _ :: _, _ :: _, h, 0, _ => by simpa using h.1
  | _ :: _, _ :: _, h, t + 1, ht => by simpa using dens_get h.2 t (by simpa using ht)
  | [], _, _, _, ht => by simp at ht
  | _ :: _, [], h, _, _ => h.elim

theorem getD_left {α : Type} {l l' : List α} {t : Nat} {x : α} (h : t < l.length) : (l ++ l').getD t x = l.getD t x := by
  rw [List.getD_eq_getElem?_getD, List.getElem?_append_left h, List.getD_eq_getElem?_getD]

theorem getD_right {α : Type} {l l' : List α} {t : Nat} {x : α} (h : l.length ≤ t) : (l ++ l').getD t x = l'.getD (t - l.length) x := by
  rw [List.getD_eq_getElem?_getD, List.getElem?_append_right h, List.getD_eq_getElem?_getD]

theorem getD_rep {α : Type} (n t : Nat) (x : α) : (List.replicate n x).getD t x = x := by
  rw [List.getD_eq_getElem?_getD, List.getElem?_replicate]
  split <;> rfl

theorem SpecOK.of_goes {f : FuncId} {F : Func} {body : Code} {args : List AV} {M M' : List Blk} {r : AV} (σ : List Nat) (hf : P.funcs[f]? = some F) (hb : F.body = some body)
    (g : Goes P f M.length [.code body] (args ++ List.replicate (F.ntmps - args.length) .any) M fun r' N => Fin σ M.length r' N r M') : SpecOK P f args M r M' := by
  intro ρ vals w hd hM hids cs
  let b : Frame := { (default : Frame) with fn := f, kind := .normal }
  have henter : Frame.enter P f vals.toArray .normal =
      b.at { tmps := vals.toArray ++ Array.replicate (F.ntmps - vals.toArray.size) undef, defers := [] } [.code body] := by
    simp [Frame.enter, Frame.at, hf, hb, b]
  have hl := dens_len hd
  have hF : FRel ρ M.length (args ++ List.replicate (F.ntmps - args.length) .any) { tmps := vals.toArray ++ Array.replicate (F.ntmps - vals.toArray.size) undef, defers := [] } := by
    rw [undefs, List.append_toArray]
    refine ⟨by simp [hl], fun t => ?_, fun t => ?_⟩
    · rw [show ∀ (l : List Value), l.toArray.getD t undef = l.getD t undef from fun l => by
        rw [Array.getD_eq_getD_getElem?, List.getElem?_toArray, List.getD_eq_getElem?_getD]]
      rcases Nat.lt_or_ge t args.length with h | h
      · rw [getD_left h, getD_left (l := vals) (hl ▸ h)]
        exact dens_get hd t h
      · rw [getD_right h, getD_rep]
        trivial
    · rcases Nat.lt_or_ge t args.length with h | h
      · rw [getD_left h]
        rw [List.getD_eq_getElem?_getD, List.getElem?_eq_getElem h]
        exact hids _ (List.getElem_mem h)
      · rw [getD_right h, getD_rep]
        simp [AV.ids]
  obtain ⟨v, w', fr', ρ1, r', N, hs, h1, h2, h3, h4, h5, h6⟩ := g ρ _ w b cs (Nat.le_refl _) rfl rfl hF rfl hM
  rw [← henter] at hs
  refine ⟨.returned v, w', fr', ⟨v, _, rfl, ?_, h3.after h5, ?_⟩, hs, h1, h2⟩
  · rw [← den_mapI ρ1 (fun i => σ.getD i 0)]
    exact sameA_den h3.res h4
  · intro i hi
    exact of_decide_eq_true (List.all_eq_true.1 h3.ids i hi)

def RowsOk (σ : Sg) (rows : List (List Int)) : Prop := ∀ row ∈ rows, row.length = σ.n ∧ cellsOk σ.flat row

theorem rowAt_ok {C : Array Value} {σ : Sg} {o : Nat} {row : List Int} (h : rowAt C σ o row) : row.length = σ.n ∧ cellsOk σ.flat row := by
  refine ⟨h.1, cellsOk_ext fun j x k hx hk => ?_⟩
  have := (h.2 j x hx).2
  rw [List.getD_eq_getElem?_getD, hk] at this
  exact this

theorem rowsAt_ok {C : Array Value} {σ : Sg} {o : Nat} {rows : List (List Int)} (h : rowsAt C σ o rows) : RowsOk σ rows := by
  intro row hr
  obtain ⟨i, hi, e⟩ := List.getElem_of_mem hr
  exact rowAt_ok (h i row (by rw [List.getElem?_eq_getElem hi, e]))

theorem FS_ok {F : Nat → Option Obj} {σ : Sg} {rows : List (List Int)} {x : Value} (h : FS F σ rows x) : rows.length ≤ maxLen ∧ RowsOk σ rows := by
  obtain ⟨h1, h2, h3, a, cap, h4, h5, h6⟩ := h
  refine ⟨h3, ?_⟩
  rcases h6 with rfl | ⟨k, o, C, ty, fz, g1, g2, g3⟩
  · intro row hr; cases hr
  · exact rowsAt_ok g3.1

theorem FSS_ok {F : Nat → Option Obj} {σ : Sg} {rowss : List (List (List Int))} {x : Value} (h : FSS F σ rowss x) : rowss.length ≤ maxLen ∧ ∀ rows ∈ rowss, rows.length ≤ maxLen ∧ RowsOk σ rows := by
  obtain ⟨h3, a, cap, h4, h5, h6⟩ := h
  refine ⟨h3, ?_⟩
  rcases h6 with rfl | ⟨k, o, C, ty, fz, g1, g2, g3⟩
  · intro row hr; cases hr
  · intro rows hr
    obtain ⟨i, hi, e⟩ := List.getElem_of_mem hr
    obtain ⟨y, -, hy⟩ := g3.2 i rows (by rw [List.getElem?_eq_getElem hi, e])
    exact FS_ok hy

theorem FStr_ok {F : Nat → Option Obj} {l : List ByteArray} {x : Value} (h : FStr F l x) : l.length ≤ maxLen ∧ ∀ s ∈ l, s.size ≤ maxLen := by
  obtain ⟨h3, a, cap, h4, h5, h6⟩ := h
  refine ⟨h3, ?_⟩
  rcases h6 with rfl | ⟨k, o, C, ty, fz, g1, g2, g3⟩
  · intro row hr; cases hr
  · intro s hr
    obtain ⟨i, hi, e⟩ := List.getElem_of_mem hr
    exact (g3 i s (by rw [List.getElem?_eq_getElem hi, e])).2

/-- What the arguments are known to be. -/
def factsA (M : List Blk) : AV → List Prop
  | .i k n => [rng k n]
  | .s s => [s.size ≤ maxLen]
  | .ag σ xs => [xs.length = σ.n, cellsOk σ.flat xs]
  | .p id off σ => [off + σ.n ≤ (match M[id]? with | some (.c _ xs) => xs.length | some (.s xs) => xs.length | some (.r xs) => xs.length | _ => off + σ.n)]
  | .pw id σ => [(match M[id]? with | some (.c _ xs) => xs.length | some (.s xs) => xs.length | some (.r xs) => xs.length | _ => σ.n) = σ.n]
  | .ow id len σ _ => [(match M[id]? with | some (.l _ xs) => xs.length | some (.s xs) => xs.length | some (.rf _ xs) => xs.length | _ => len) = len, len ≤ maxLen]
  | .fs σ rows => [rows.length ≤ maxLen, RowsOk σ rows]
  | .fp _ σ _ xs => [xs.length = σ.n, cellsOk σ.flat xs]
  | .fz σ rowss => [rowss.length ≤ maxLen, ∀ rows ∈ rowss, rows.length ≤ maxLen ∧ RowsOk σ rows]
  | .fstr l => [l.length ≤ maxLen, ∀ s ∈ l, s.size ≤ maxLen]
  | .sl id off len σ => [off + len * σ.n ≤ (match M[id]? with | some (.c _ xs) => xs.length | some (.s xs) => xs.length | some (.r xs) => xs.length | _ => off + len * σ.n)]
  | _ => []

def factsB : Blk → List Prop
  | .l σ rows => [RowsOk σ rows]
  | .rf σ rowss => [∀ rows ∈ rowss, rows.length ≤ maxLen ∧ RowsOk σ rows]
  | .c σ xs => [∀ j x, xs[j]? = some x → (σ.flat.getD (j % σ.n) .bool).ok x]
  | .s ss => [∀ (j : Nat) (x : ByteArray), ss[j]? = some x → x.size ≤ maxLen]
  | _ => []

def factsL (M : List Blk) : List AV → List Prop
  | [] => []
  | x :: l => factsA M x ++ factsL M l

def factsM : List Blk → List Prop
  | [] => []
  | b :: l => factsB b ++ factsM l

theorem factsA_ok {ρ : Rho} {M : List Blk} {w : World} (hM : MRel ρ M w) {x : AV} {v : Value} (h : Den ρ x v) : allP (factsA M x) := by
  have key : ∀ id d, (∃ n, (match M[id]? with | some (.c _ xs) => xs.length | some (.s xs) => xs.length | some (.r xs) => xs.length | _ => d) = n ∧ (n = (ρ id).size ∨ n = d)) := by
    intro id d
    cases h : M[id]? with
    | none => exact ⟨_, rfl, .inr rfl⟩
    | some b =>
      have := hM.blk id b h
      cases b with
      | dead => exact ⟨_, rfl, .inr rfl⟩
      | c σ xs => obtain ⟨C, -, -, -, -, -, hl, -⟩ := this; exact ⟨_, rfl, .inl hl⟩
      | s ss => obtain ⟨C, -, -, -, hl, -⟩ := this; exact ⟨_, rfl, .inl hl⟩
      | l σ rows => exact ⟨_, rfl, .inr rfl⟩
      | rf σ rows => exact ⟨_, rfl, .inr rfl⟩
      | m k es => exact ⟨_, rfl, .inr rfl⟩
      | r vs => obtain ⟨C, -, -, -, hl, -⟩ := this; exact ⟨_, rfl, .inl hl⟩
  cases x with
  | i k n => exact ⟨h.2, trivial⟩
  | s s => exact ⟨h.2, trivial⟩
  | ag σ xs => exact ⟨h.2.1, h.2.2.1, trivial⟩
  | p id off σ =>
    refine ⟨?_, trivial⟩
    obtain ⟨n, hn, h'⟩ := key id (off + σ.n)
    rw [hn]
    have := h.2.1
    rcases h' with rfl | rfl <;> omega
  | pw id σ =>
    refine ⟨?_, trivial⟩
    obtain ⟨n, hn, h'⟩ := key id σ.n
    rw [hn]
    have := h.2.2
    rcases h' with rfl | rfl
    · exact this
    · rfl
  | ow id len σ e =>
    obtain ⟨cap, -, h1, h2, hs, hp, h3, -⟩ := h
    refine ⟨?_, Nat.le_trans h1 h2, trivial⟩
    cases hm : M[id]? with
    | none => rfl
    | some b =>
      have := hM.blk id b hm
      cases b with
      | l σ' rows =>
        obtain ⟨C, -, -, hσ, -, -, hl, -⟩ := this
        have e : σ' = σ := by rw [← hσ, hs]
        subst e
        exact Nat.eq_of_mul_eq_mul_right hp (by rw [hl, h3])
      | s ss =>
        obtain ⟨C, -, -, hσ, hl, -⟩ := this
        have e : σ = .str := by rw [← hs, hσ]
        subst e
        rw [h3] at hl
        simpa [Sg.n] using hl
      | rf σ' ss =>
        obtain ⟨C, -, -, hσ, hl, -⟩ := this
        have e : σ = .ref := by rw [← hs, hσ]
        subst e
        rw [h3] at hl
        simpa [Sg.n] using hl
      | _ => rfl
  | fs σ rows => exact ⟨(FS_ok h).1, (FS_ok h).2, trivial⟩
  | fp o σ τ xs => obtain ⟨-, -, -, -, -, k, b, C, ty, fz, -, -, g⟩ := h; exact ⟨(rowAt_ok g).1, (rowAt_ok g).2, trivial⟩
  | fz σ rows => exact ⟨(FSS_ok h).1, (FSS_ok h).2, trivial⟩
  | fstr l => exact ⟨(FStr_ok h).1, (FStr_ok h).2, trivial⟩
  | sl id off len σ =>
    obtain ⟨cap, -, -, -, -, h4, -⟩ := h
    refine ⟨?_, trivial⟩
    obtain ⟨n, hn, h'⟩ := key id (off + len * σ.n)
    rw [hn]
    rcases h' with rfl | rfl <;> omega
  | _ => trivial

theorem factsL_ok {ρ : Rho} {M : List Blk} {w : World} (hM : MRel ρ M w) : ∀ {l : List AV} {vs : List Value}, Dens ρ l vs → allP (factsL M l)
  | [], [], _ => trivial
  | _ :: _, _ :: _, h => allP_app.2 ⟨factsA_ok hM h.1, factsL_ok hM h.2⟩
  | [], _ :: _, h => h.elim
  | _ :: _, [], h => h.elim

theorem factsB_ok {ρ : Rho} {M : List Blk} {w : World} (hM : MRel ρ M w) {id : Nat} {b : Blk} (h : M[id]? = some b) : allP (factsB b) := by
  have := hM.blk id b h
  cases b with
  | dead => trivial
  | c σ xs =>
    obtain ⟨C, -, -, hσ, -, -, -, -, hx⟩ := this
    refine ⟨fun j x hj => ?_, trivial⟩
    have := (hx j x hj).2
    unfold Loc.kind at this
    rw [hσ] at this
    exact this
  | s ss => obtain ⟨C, -, -, -, -, -, hx⟩ := this; exact ⟨fun j x hj => (hx j x hj).2, trivial⟩
  | l σ rows => obtain ⟨C, -, -, -, -, -, -, -, hx⟩ := this; exact ⟨rowsAt_ok hx, trivial⟩
  | rf σ rowss =>
    obtain ⟨C, -, -, -, -, -, hx⟩ := this
    refine ⟨fun rows hr => ?_, trivial⟩
    obtain ⟨i, hi, e⟩ := List.getElem_of_mem hr
    obtain ⟨y, -, hy⟩ := hx i rows (by rw [List.getElem?_eq_getElem hi, e])
    exact FS_ok hy
  | r vs => trivial
  | m k es => trivial

theorem factsM_ok {ρ : Rho} {M : List Blk} {w : World} (hM : MRel ρ M w) : ∀ (l : List Blk), (∀ b ∈ l, ∃ id : Nat, M[id]? = some b) → allP (factsM l)
  | [], _ => trivial
  | b :: l, h => allP_app.2 ⟨(h b List.mem_cons_self).elim fun _ hid => factsB_ok hM hid, factsM_ok hM l fun b hb => h b (List.mem_cons_of_mem _ hb)⟩

theorem SpecOK.assume {f : FuncId} {args : List AV} {M M' : List Blk} {r : AV} (h : allP (factsL M args) → allP (factsM M) → SpecOK P f args M r M') : SpecOK P f args M r M' :=
  fun ρ vals w hd hM hi => h (factsL_ok hM hd) (factsM_ok hM M fun b hb => by
    obtain ⟨n, hn, e⟩ := List.getElem_of_mem hb
    exact ⟨n, by rw [List.getElem?_eq_getElem hn, e]⟩) ρ vals w hd hM hi

end Go.Eng

/- The engine, part 19: tables of what is told, and small laws of lists. No conditions. -/
namespace Go.Eng
open Go Go.RowKit
set_option linter.unusedSectionVars false
variable [Glob]
variable {P : Program} {Γ : Tab}

def tb0 : FuncId → Option Fun := fun _ => .none
def tb1 (n : Nat) (S : Fun) (tb : FuncId → Option Fun) : FuncId → Option Fun := fun m => match Nat.beq n m with
  | true => some S
  | false => tb m

theorem TbOk.nil : TbOk P tb0 := ⟨fun _ _ h => (by cases h), fun _ _ h => (by cases h)⟩

theorem TbOk.cons {n : Nat} {S : Fun} {tb : FuncId → Option Fun} {F : Func} (hS : Sound P n S) (hf : P.funcs[n]? = some F) (hb : F.body.isNone = false) (hn : (F.name == "runtime.NumGoroutine") = false) (h : TbOk P tb) : TbOk P (tb1 n S tb) where
  sound := fun m S' h' => by
    unfold tb1 at h'
    split at h'
    · rename_i e
      cases h'
      rw [← Nat.eq_of_beq_eq_true e]
      exact hS
    · exact h.sound m S' h'
  enter := fun m S' h' args w => by
    unfold tb1 at h'
    split at h'
    · rename_i e
      rw [← Nat.eq_of_beq_eq_true e]
      exact enter_ok hf hb hn args w
    · exact h.enter m S' h' args w

def frOf : Nat → List (Nat × AV) → List AV
  | n, [] => List.replicate n .any
  | n, (t, x) :: l => (frOf n l).set t x

/-- A loop, with its first entry. -/
theorem Goes.loop0 {fn : FuncId} {m : Nat} {R : AV → List Blk → Prop} {ι : Type} (μ : ι → Nat) (I : ι → Prop) (fr : ι → List AV) (M : ι → List Blk) {todo : List Item} {fr0 : List AV} {M0 : List Blk} (i0 : ι) (h0 : I i0)
    (hf : leF (fr i0) fr0) (hm : leM (M i0) M0)
    (h : ∀ i, I i → (∀ j, I j → μ j < μ i → ∀ fr' M', leF (fr j) fr' → leM (M j) M' → Goes P fn m todo fr' M' R) → Goes P fn m todo (fr i) (M i) R) : Goes P fn m todo fr0 M0 R :=
  Goes.weak hf hm (Goes.loop (S := fun _ => R) μ I (fun i hi ih => h i hi fun j hj hlt _ _ h1 h2 => Goes.weak h1 h2 (ih j hj hlt)) i0 h0)

/-- It gives back what it is given. -/
def idS (σ : Sg) : Fun
  | [.ag τ xs], [] => if τ = σ then some (.ag τ xs, [], []) else .none
  | _, _ => .none

theorem idS_inv {σ : Sg} {args : List AV} {M M' : List Blk} {r : AV} {vs : List Prop} (h : idS σ args M = some (r, M', vs)) : ∃ xs, args = [.ag σ xs] ∧ M = [] ∧ r = .ag σ xs ∧ M' = [] := by
  unfold idS at h
  split at h
  · split at h
    · rename_i hc; cases h; subst hc; exact ⟨_, rfl, rfl, rfl, rfl⟩
    · cases h
  · cases h

/-- A copy, part by part. -/
def cpy (xs zs : List Int) (k : Nat) : List Int := xs.take k ++ zs.drop k

theorem cpy_zero (xs zs : List Int) : cpy xs zs 0 = zs := by simp [cpy]

theorem cpy_all (xs zs : List Int) {k : Nat} (h1 : xs.length ≤ k) (h2 : zs.length ≤ k) : cpy xs zs k = xs := by
  simp [cpy, List.take_of_length_le h1, List.drop_eq_nil_of_le h2]

theorem cpy_set (xs zs : List Int) {k : Nat} (h1 : k < xs.length) (h2 : k < zs.length) : (cpy xs zs k).set k (xs.getD k 0) = cpy xs zs (k + 1) := by
  unfold cpy
  have e : (xs.take k).length = k := by rw [List.length_take]; omega
  rw [List.set_append_right _ _ (by omega), e, Nat.sub_self, List.drop_eq_getElem_cons h2, List.set_cons_zero, List.getD_eq_getElem?_getD, List.getElem?_eq_getElem h1]
  simp only [Option.getD_some]
  rw [List.take_succ_eq_append_getElem h1, List.append_assoc]
  rfl

theorem cpy_seg (xs zs : List Int) {k n : Nat} (h1 : k + n ≤ xs.length) (_ : k + n ≤ zs.length) : putSeg (cpy xs zs k) k n ((xs.drop k).take n) = cpy xs zs (k + n) := by
  unfold putSeg cpy
  have e : (xs.take k).length = k := by rw [List.length_take]; omega
  rw [List.take_append_of_le_length (by omega), List.take_of_length_le (l := xs.take k) (by omega), List.drop_append, e, List.drop_eq_nil_of_le (as := xs.take k) (by omega), List.nil_append, List.drop_drop,
    show k + (k + n - k) = k + n from by omega, List.take_add]

theorem cpy_len (xs zs : List Int) {k n : Nat} (h1 : k ≤ xs.length) (h2 : zs.length = n) (h3 : k ≤ n) : (cpy xs zs k).length = n := by
  unfold cpy
  rw [List.length_append, List.length_take, List.length_drop]
  omega

end Go.Eng
