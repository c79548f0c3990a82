/- The engine, part 3: operands, loads, addresses. No conditions. -/
import Derived.Test.YtfelemoefhbphaaEng2
namespace Go.Eng
open Go Go.RowKit
variable {P : Program} {Γ : Tab}

theorem run_ti {t : TypeId} {i : TypeInfo} (h : P.info? t = some i) (w : World) : (typeInfo t).run P w = .ok i w := by unfold typeInfo; simp [h]

theorem run_so {t : TypeId} {i : TypeInfo} {n : Nat} (h : P.info? t = some i) (hn : i.size = n) (w : World) : (sizeOf t).run P w = .ok n w := by
  unfold sizeOf; simp [run_ti h, hn]

structure FRel (ρ : Rho) (n : Nat) (fr : List AV) (a : Act) : Prop where
  size : a.tmps.size = fr.length
  den : ∀ t, Den ρ (fr.getD t .any) (a.tmps.getD t undef)
  ids : ∀ t, ∀ i ∈ (fr.getD t .any).ids, i < n

def constAV : Value → AV
  | .int k n => if lo k ≤ n ∧ n ≤ hi k then .i k n else .any
  | .bool b => .d b
  | .string s => if s.size ≤ maxLen then .s s else .any
  | .pointer .none => .np
  | .slice .none 0 0 => .nsl
  | .func (.func f) ⟨[]⟩ ⟨[]⟩ => .fn f []
  | _ => .any

def evA (fr : List AV) : Operand → AV
  | .tmp t => fr.getD t .any
  | .const v => constAV v
  | .func f => .fn f []
  | .global _ => .any

theorem den_const (ρ : Rho) (v : Value) : Den ρ (constAV v) v := by
  unfold constAV
  split
  · split
    · exact ⟨rfl, by assumption⟩
    · trivial
  · rfl
  · split
    · exact ⟨rfl, by assumption⟩
    · trivial
  · rfl
  · rfl
  · exact ⟨rfl, by simp⟩
  · trivial

theorem den_op {ρ : Rho} {n : Nat} {fr : List AV} {a : Act} (h : FRel ρ n fr a) (x : Operand) : Den ρ (evA fr x) (a.eval x) := by
  cases x with
  | tmp t => exact h.den t
  | const v => exact den_const ρ v
  | func f => exact ⟨rfl, by simp⟩
  | global g => trivial

theorem ids_const (v : Value) : (constAV v).ids = [] := by
  unfold constAV
  split <;> (try split) <;> rfl

theorem ids_op {ρ : Rho} {n : Nat} {fr : List AV} {a : Act} (h : FRel ρ n fr a) (x : Operand) : ∀ i ∈ (evA fr x).ids, i < n := by
  cases x with
  | tmp t => exact h.ids t
  | const v => simp only [evA, ids_const]; simp
  | func f => simp [evA, AV.ids]
  | global g => simp [evA, AV.ids]

/-- One cell as a value. -/
def cellAV : CK → Int → AV
  | .int k, n => .i k n
  | .bool, n => .b (n != 0)

theorem den_cell (ρ : Rho) {k : CK} {n : Int} (h : k.ok n) : Den ρ (cellAV k n) (k.val n) := by
  cases k with
  | int k => exact ⟨rfl, h⟩
  | bool => rfl

/-- A run of cells of a block reads as told. -/
theorem cells_row {l : Loc} {C : Array Value} {xs : List Int} (hx : ∀ j x, xs[j]? = some x → C[j]? = some ((l.kind j).val x) ∧ (l.kind j).ok x) :
    ∀ (ks : List CK) (off : Nat), off + ks.length ≤ xs.length → (∀ j, j < ks.length → l.kind (off + j) = ks.getD j .bool) →
      (∀ j v, (cellsV ks ((xs.drop off).take ks.length))[j]? = some v → C[off + j]? = some v) ∧
      (cellsV ks ((xs.drop off).take ks.length)).length = ks.length ∧ cellsOk ks ((xs.drop off).take ks.length) ∧ ((xs.drop off).take ks.length).length = ks.length := by
  intro ks
  induction ks with
  | nil => intro off _ _; exact ⟨by simp [cellsV], rfl, trivial, by simp⟩
  | cons k ks ih =>
    intro off hl hk
    have hoff : off < xs.length := by simp at hl; omega
    have e : (xs.drop off).take (k :: ks).length = xs[off] :: (xs.drop (off + 1)).take ks.length := by
      rw [List.drop_eq_getElem_cons hoff]; rfl
    obtain ⟨i1, i2, i3, i4⟩ := ih (off + 1) (by simp at hl; omega) (fun j hj => by
      have := hk (j + 1) (by simp; omega)
      rw [show off + 1 + j = off + (j + 1) from by omega, this]; rfl)
    have h0 := hx off xs[off] (List.getElem?_eq_getElem hoff)
    have hk0 : l.kind off = k := by have := hk 0 (by simp); simpa using this
    rw [hk0] at h0
    rw [e]
    refine ⟨fun j v hv => ?_, by simp only [cellsV, List.length_cons]; rw [i2], ⟨h0.2, i3⟩, by simp only [List.length_cons]; rw [i4]⟩
    cases j with
    | zero => simp only [cellsV, List.getElem?_cons_zero, Option.some.injEq] at hv; rw [Nat.add_zero, ← hv]; exact h0.1
    | succ j =>
      simp only [cellsV, List.getElem?_cons_succ] at hv
      rw [show off + (j + 1) = off + 1 + j from by omega]
      exact i1 j v hv

/-- The load of a variable of shape σ. -/
def loadAV (M : List Blk) (id off : Nat) (σ : Sg) : Option AV :=
  match M[id]? with
  | some (.c _ xs) => match σ.inf with
    | .cell k => some (cellAV k (xs.getD off 0))
    | .arr _ _ => some (.ag σ ((xs.drop off).take σ.n))
    | .st _ => some (.ag σ ((xs.drop off).take σ.n))
    | _ => .none
  | some (.s ss) => match σ with
    | .str => some (.s (ss.getD off ByteArray.empty))
    | _ => .none
  | some (.rf σ' rowss) => match σ with
    | .ref => some (.fs σ' (rowss.getD off []))
    | _ => .none
  | some (.r vs) => match σ with
    | .ref => some (vs.getD off .any)
    | _ => .none
  | _ => .none

theorem kind_val_one (k : CK) (n : Int) : (k.val n).oneCell' = true := by cases k <;> rfl

theorem run_load_c {w : World} {b o : Nat} {C : Array Value} {ty : TypeId} {fz : Nat × Nat} {v : Value} (hb : w.heap[b]? = some (.cells C ty fz)) (hc : C[o]? = some v) :
    w.cell? ⟨b, o, none⟩ = some v := by rw [cell_of_row w b o C ty fz hb]; exact hc

theorem load_sound (H : TabOk P Γ) {ρ : Rho} {M : List Blk} {w : World} (hM : MRel ρ M w) {t : TypeId} {id off : Nat} {σ : Sg} {r : AV}
    (ht : Γ.sg t = σ) (hn : σ ≠ .none) (hp : PtrOk (ρ id) off σ) (h : loadAV M id off σ = some r) :
    ∃ v, Den ρ r v ∧ (loadVar t ⟨(ρ id).blk, off, none⟩).run P w = .ok v w := by
  unfold loadAV at h
  obtain ⟨hp1, hp2⟩ := hp
  split at h
  · rename_i τ xs hid
    obtain ⟨C, hb, hC, hσ, hpu, hn0, hlen, hroom, hx⟩ := hM.blk id _ hid
    have agg : σ.pure = true → (∃ d, P.underlying t = some d ∧ (match d with | .struct _ | .array _ _ => true | _ => false) = true) →
        ∃ v, Den ρ (.ag σ ((xs.drop off).take σ.n)) v ∧ (loadVar t ⟨(ρ id).blk, off, none⟩).run P w = .ok v w := by
      intro hpure hd
      obtain ⟨d, hu, hd⟩ := hd
      obtain ⟨i, z, hi, hsz, -, -⟩ := H.parts ht hn
      have hfl := Sg.flat_len σ hpure
      rw [if_pos hpure] at hp2
      obtain ⟨c1, c2, c3, c4⟩ := cells_row hx σ.flat off (by rw [hfl]; omega) (by rw [hfl]; exact hp2.2)
      rw [hfl] at c1 c2 c3 c4
      refine ⟨_, ⟨rfl, c4, c3, hpure⟩, ?_⟩
      have hag : (isAgg t).run P w = .ok true w := by
        unfold isAgg
        simp only [Sem.run_bind, run_underlying hu, Result.andThen_ok]
        cases d <;> first | rfl | cases hd
      have hso : (sizeOf t).run P w = .ok σ.n w := run_so hi hsz w
      have hl := run_loadCells_list (P := P) w ⟨(ρ id).blk, off, none⟩ (cellsV σ.flat ((xs.drop off).take σ.n)) (fun j v hv => by
        have : (⟨(ρ id).blk, off, none⟩ : Addr).add j = ⟨(ρ id).blk, off + j, none⟩ := by
          unfold Addr.add; split <;> simp_all
        rw [this]
        exact run_load_c hb (c1 j v hv))
      rw [c2] at hl
      unfold loadVar
      simp only [Sem.run_bind, hag, Result.andThen_ok, if_true, hso, hl, Sem.run_pure]
    split at h
    · rename_i k hinf
      cases h
      obtain ⟨f1, f2, f3⟩ := Sg.cell_flat σ k hinf
      rw [if_pos f3, f2, f1] at hp2
      have hk := hp2.2 0 (by omega)
      simp only [Nat.add_zero, List.getD_cons_zero] at hk
      have hlt : off < xs.length := by omega
      have h0 := hx off xs[off] (List.getElem?_eq_getElem hlt)
      rw [hk] at h0
      have hu := H.cell ht hinf
      refine ⟨k.val xs[off], ?_, ?_⟩
      · rw [List.getD_eq_getElem?_getD, List.getElem?_eq_getElem hlt]; exact den_cell ρ h0.2
      · have hag : (isAgg t).run P w = .ok false w := by
          unfold isAgg
          simp only [Sem.run_bind, run_underlying hu, Result.andThen_ok]
          cases k <;> rfl
        unfold loadVar
        simp only [Sem.run_bind, hag, Result.andThen_ok]
        simp [run_load, run_load_c hb h0.1]
    · rename_i hinf
      cases h
      obtain ⟨t', hu, -, -⟩ := H.arr ht hinf
      obtain ⟨-, -, -, -⟩ := Sg.arr_flat σ _ _ hinf
      exact agg (by cases σ <;> first | rfl | cases hinf) ⟨_, hu, rfl⟩
    · rename_i hinf
      cases h
      obtain ⟨gs, hu, -, -, -⟩ := H.st ht hn hinf
      exact agg (by cases σ <;> first | rfl | cases hinf) ⟨_, hu, rfl⟩
    · cases h
  · rename_i ss hid
    obtain ⟨C, hb, hC, hσ, hlen, hroom, hx⟩ := hM.blk id _ hid
    split at h
    · cases h
      have hlt : off < ss.length := by simp [Sg.n] at hp1; omega
      have h0 := hx off ss[off] (List.getElem?_eq_getElem hlt)
      refine ⟨.string ss[off], ?_, ?_⟩
      · rw [List.getD_eq_getElem?_getD, List.getElem?_eq_getElem hlt]; exact ⟨rfl, h0.2⟩
      · have hu := H.str ht
        have hag : (isAgg t).run P w = .ok false w := by
          unfold isAgg
          simp only [Sem.run_bind, run_underlying hu, Result.andThen_ok]
          rfl
        unfold loadVar
        simp only [Sem.run_bind, hag, Result.andThen_ok]
        simp [run_load, run_load_c hb h0.1]
    · cases h
  · rename_i σ' rowss hid
    obtain ⟨C, hb, hC, hσ, hlen, hroom, hx⟩ := hM.blk id _ hid
    split at h
    · cases h
      have hlt : off < rowss.length := by simp [Sg.n] at hp1; omega
      obtain ⟨y, hy1, hy2⟩ := hx off rowss[off] (List.getElem?_eq_getElem hlt)
      refine ⟨y, ?_, ?_⟩
      · rw [List.getD_eq_getElem?_getD, List.getElem?_eq_getElem hlt]; exact hy2
      · obtain ⟨d, hu, hd⟩ := H.refs ht
        have hag : (isAgg t).run P w = .ok false w := by
          unfold isAgg
          simp only [Sem.run_bind, run_underlying hu, Result.andThen_ok]
          cases d <;> first | rfl | cases hd
        unfold loadVar
        simp only [Sem.run_bind, hag, Result.andThen_ok]
        simp [run_load, run_load_c hb hy1]
    · cases h
  · rename_i vs hid
    obtain ⟨C, hb, hC, hσ, hlen, hroom, hx⟩ := hM.blk id _ hid
    split at h
    · cases h
      have hlt : off < vs.length := by simp [Sg.n] at hp1; omega
      obtain ⟨y, hy1, hy2, hy3⟩ := hx off vs[off] (List.getElem?_eq_getElem hlt)
      refine ⟨y, ?_, ?_⟩
      · rw [List.getD_eq_getElem?_getD, List.getElem?_eq_getElem hlt]; exact hy2
      · obtain ⟨d, hu, hd⟩ := H.refs ht
        have hag : (isAgg t).run P w = .ok false w := by
          unfold isAgg
          simp only [Sem.run_bind, run_underlying hu, Result.andThen_ok]
          cases d <;> first | rfl | cases hd
        unfold loadVar
        simp only [Sem.run_bind, hag, Result.andThen_ok]
        simp [run_load, run_load_c hb hy1]
    · cases h
  · cases h


/-- The load of a whole block. -/
def loadW (M : List Blk) (id : Nat) (σ : Sg) : Option AV :=
  match M[id]? with
  | some (.c _ xs) => match σ.inf with
    | .cell k => match xs with
      | [x] => some (cellAV k x)
      | _ => .none
    | .arr _ _ => some (.ag σ xs)
    | .st _ => some (.ag σ xs)
    | _ => .none
  | some (.s ss) => match σ, ss with
    | .str, [s] => some (.s s)
    | _, _ => .none
  | some (.r vs) => match σ, vs with
    | .ref, [v] => some v
    | _, _ => .none
  | _ => .none

theorem loadW_eq {ρ : Rho} {M : List Blk} {w : World} (hM : MRel ρ M w) {id : Nat} {σ : Sg} {r : AV} (hs : (ρ id).size = σ.n) (h : loadW M id σ = some r) : loadAV M id 0 σ = some r := by
  unfold loadW at h
  unfold loadAV
  split at h
  · rename_i τ xs hid
    rw [hid]
    dsimp only
    obtain ⟨C, hb, hC, hσ, hpu, hn0, hlen, hroom, hx⟩ := hM.blk id _ hid
    have hl : xs.length = σ.n := by omega
    have e : (xs.drop 0).take σ.n = xs := by rw [List.drop_zero, ← hl, List.take_length]
    split at h
    · rename_i k hinf
      split at h
      · cases h; rfl
      · cases h
    · rename_i n e' hinf
      rw [e]; exact h
    · rename_i fs hinf
      rw [e]; exact h
    · cases h
  · rename_i ss hid
    rw [hid]
    dsimp only
    split at h
    · cases h; rfl
    · cases h
  · rename_i vs hid
    rw [hid]
    dsimp only
    split at h
    · cases h; rfl
    · cases h
  · cases h

theorem load_ids {ρ : Rho} {M : List Blk} {w : World} (hM : MRel ρ M w) {id off : Nat} {σ : Sg} {r : AV} (h : loadAV M id off σ = some r) : ∀ i ∈ r.ids, i < M.length := by
  unfold loadAV at h
  split at h
  · split at h
    · cases h; rename_i k _; cases k <;> simp [cellAV, AV.ids]
    · cases h; simp [AV.ids]
    · cases h; simp [AV.ids]
    · cases h
  · split at h
    · cases h; simp [AV.ids]
    · cases h
  · split at h
    · cases h; simp [AV.ids]
    · cases h
  · rename_i vs hid
    split at h
    · cases h
      rw [List.getD_eq_getElem?_getD]
      cases hv : vs[off]? with
      | none => simp [AV.ids]
      | some x => exact hM.cl _ _ hid x (List.mem_of_getElem? hv)
    · cases h
  · cases h

end Go.Eng
