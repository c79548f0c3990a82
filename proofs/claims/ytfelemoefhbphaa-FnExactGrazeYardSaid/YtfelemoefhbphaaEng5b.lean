/- The engine, part 5b: parts of aggregates, and equality of two aggregates. No conditions. -/
import Derived.Test.YtfelemoefhbphaaEng5
namespace Go.Eng
open Go Go.RowKit
variable {P : Program} {Γ : Tab}

theorem cellsV_getE : ∀ (ks : List CK) (xs : List Int) (j : Nat), (cellsV ks xs)[j]? = (ks[j]?).bind fun k => (xs[j]?).map fun x => k.val x
  | [], xs, j => by simp [cellsV]
  | k :: ks, [], j => by cases h : (k :: ks)[j]? <;> simp [cellsV]
  | k :: ks, x :: xs, 0 => by simp [cellsV]
  | k :: ks, x :: xs, j + 1 => by simpa [cellsV] using cellsV_getE ks xs j

theorem cellsV_sub (ks ks' : List CK) (xs : List Int) (o n : Nat) (hn : ks'.length = n) (hk : ∀ j, j < n → ks[o + j]? = ks'[j]?) :
    ((cellsV ks xs).drop o).take n = cellsV ks' ((xs.drop o).take n) := by
  apply List.ext_getElem?
  intro j
  rw [cellsV_getE]
  by_cases hj : j < n
  · rw [List.getElem?_take, if_pos hj, List.getElem?_drop, cellsV_getE, hk j hj, List.getElem?_take, if_pos hj, List.getElem?_drop]
  · rw [List.getElem?_take, if_neg hj, List.getElem?_eq_none (l := ks') (by omega)]
    rfl

theorem cellsOk_sub : ∀ (ks ks' : List CK) (xs : List Int) (o n : Nat), ks'.length = n → (∀ j, j < n → ks[o + j]? = ks'[j]?) → cellsOk ks xs → cellsOk ks' ((xs.drop o).take n) := by
  intro ks ks' xs o n
  induction ks' generalizing o n with
  | nil => intros; trivial
  | cons k' ks' ih =>
    intro hn hk hok
    subst hn
    cases hx : xs.drop o with
    | nil => simp [cellsOk]
    | cons x r =>
      have h0 : xs[o]? = some x := by rw [← List.head?_drop, hx]; rfl
      have hr : xs.drop (o + 1) = r := by rw [← List.drop_drop, hx]; rfl
      refine ⟨?_, ?_⟩
      · have := hk 0 (by simp)
        exact cellsOk_get ks xs o x k' hok h0 (by simpa using this)
      · rw [← hr]
        exact ih (o + 1) ks'.length rfl (fun j hj => by
          have := hk (j + 1) (by simp; omega)
          rw [show o + 1 + j = o + (j + 1) from by omega, this]; rfl) hok

/-- A variable's value of a shape. -/
def valOf (σ : Sg) (xs : List Int) : Value :=
  match σ.inf with
  | .cell k => k.val (xs.getD 0 0)
  | _ => .agg (cellsV σ.flat xs).toArray

theorem pure_no {σ : Sg} (h : σ.pure = true) : σ.inf ≠ .str ∧ σ.inf ≠ .ref := by cases σ <;> first | (exact absurd h (by decide)) | exact ⟨by simp [Sg.inf], by simp [Sg.inf]⟩

theorem isAgg_run (H : TabOk P Γ) {t : TypeId} {σ : Sg} (ht : Γ.sg t = σ) (hn : σ ≠ .none) (hp : σ.pure = true) (w : World) :
    (isAgg t).run P w = .ok (match σ.inf with | .cell _ => false | _ => true) w := by
  unfold isAgg
  cases hi : σ.inf with
  | cell k => have hu := H.cell ht hi; simp only [Sem.run_bind, run_underlying hu, Result.andThen_ok]; cases k <;> rfl
  | arr n e => obtain ⟨t', hu, -⟩ := H.arr ht hi; simp only [Sem.run_bind, run_underlying hu, Result.andThen_ok]; rfl
  | st fs => obtain ⟨gs, hu, -⟩ := H.st ht hn hi; simp only [Sem.run_bind, run_underlying hu, Result.andThen_ok]; rfl
  | str => exact absurd hi (pure_no hp).1
  | ref => exact absurd hi (pure_no hp).2

theorem part_run (H : TabOk P Γ) {e : TypeId} {τ : Sg} (ht : Γ.sg e = τ) (hn : τ ≠ .none) (hp : τ.pure = true) {ks : List CK} {xs : List Int} {o : Nat} (ho : o + τ.n ≤ xs.length)
    (hk : ∀ j, j < τ.n → ks[o + j]? = τ.flat[j]?) (w : World) : (part e (cellsV ks xs).toArray o).run P w = .ok (valOf τ ((xs.drop o).take τ.n)) w := by
  unfold part valOf
  have hfl := Sg.flat_len τ hp
  cases hi : τ.inf with
  | cell k =>
    obtain ⟨f1, f2, -⟩ := Sg.cell_flat τ k hi
    have h0 := hk 0 (by omega)
    rw [f1] at h0
    simp only [Nat.add_zero, List.getElem?_cons_zero] at h0
    have hx : xs[o]? = some xs[o] := List.getElem?_eq_getElem (by omega)
    have hc : (cellsV ks xs).toArray[o]? = some (k.val xs[o]) := by rw [List.getElem?_toArray]; exact cellsV_get ks xs o _ k hx h0
    simp only [Sem.run_bind, isAgg_run H ht hn hp, hi, Result.andThen_ok, Bool.false_eq_true, if_false, hc, Sem.run_pure, f2]
    congr 2
    rw [List.getD_eq_getElem?_getD, List.getElem?_take]
    simp [hx]
  | arr n e' =>
    obtain ⟨i, z, hi', hsz, -, -⟩ := H.parts ht hn
    simp only [Sem.run_bind, isAgg_run H ht hn hp, hi, Result.andThen_ok, if_true, run_so hi' hsz, Sem.run_pure]
    congr 2
    rw [← cellsV_sub ks τ.flat xs o τ.n hfl hk]
    simp [List.extract_eq_take_drop]
  | st fs =>
    obtain ⟨i, z, hi', hsz, -, -⟩ := H.parts ht hn
    simp only [Sem.run_bind, isAgg_run H ht hn hp, hi, Result.andThen_ok, if_true, run_so hi' hsz, Sem.run_pure]
    congr 2
    rw [← cellsV_sub ks τ.flat xs o τ.n hfl hk]
    simp [List.extract_eq_take_drop]
  | str => exact absurd hi (pure_no hp).1
  | ref => exact absurd hi (pure_no hp).2

/-- As an abstract value. -/
def subAV (τ : Sg) (xs : List Int) (o : Nat) : AV :=
  match τ.inf with
  | .cell k => cellAV k (xs.getD o 0)
  | _ => .ag τ ((xs.drop o).take τ.n)

theorem den_sub (ρ : Rho) {τ : Sg} (hp : τ.pure = true) {ks : List CK} {xs : List Int} {o : Nat} (hok : cellsOk ks xs) (ho : o + τ.n ≤ xs.length) (hk : ∀ j, j < τ.n → ks[o + j]? = τ.flat[j]?) :
    Den ρ (subAV τ xs o) (valOf τ ((xs.drop o).take τ.n)) := by
  unfold subAV valOf
  have hfl := Sg.flat_len τ hp
  cases hi : τ.inf with
  | cell k =>
    obtain ⟨f1, f2, -⟩ := Sg.cell_flat τ k hi
    have h0 := hk 0 (by omega)
    rw [f1] at h0
    simp only [Nat.add_zero, List.getElem?_cons_zero] at h0
    have hx : xs[o]? = some xs[o] := List.getElem?_eq_getElem (by omega)
    have e : ((xs.drop o).take τ.n).getD 0 0 = xs.getD o 0 := by
      rw [List.getD_eq_getElem?_getD, List.getD_eq_getElem?_getD, List.getElem?_take, f2]; simp
    dsimp only
    rw [e, List.getD_eq_getElem?_getD, hx]
    exact den_cell ρ (cellsOk_get ks xs o _ k hok hx h0)
  | arr n e' => exact ⟨rfl, by rw [List.length_take, List.length_drop]; omega, cellsOk_sub ks τ.flat xs o τ.n hfl hk hok, hp⟩
  | st fs => exact ⟨rfl, by rw [List.length_take, List.length_drop]; omega, cellsOk_sub ks τ.flat xs o τ.n hfl hk hok, hp⟩
  | str => exact absurd hi (pure_no hp).1
  | ref => exact absurd hi (pure_no hp).2

theorem sub_ids (τ : Sg) (xs : List Int) (o : Nat) : (subAV τ xs o).ids = [] := by
  unfold subAV
  split
  · rename_i k _; cases k <;> rfl
  · rfl


/-! ## Equality -/
def Sg.dep : Sg → Nat
  | .spot => 1 | .row => 1 | .grid => 2 | .w10 => 1 | .pas => 3 | .tab => 1 | .gro => 2 | .goat => 2 | .hur => 2
  | .b10 => 1 | .bgrid => 2 | .l10 => 1 | .lgrid => 2 | .two => 1 | .sp2 => 2 | _ => 0

theorem Sg.dep_arr {σ e : Sg} {n : Nat} (h : σ.inf = .arr n e) : e.dep < σ.dep := by
  cases σ <;> simp only [Sg.inf, Inf.arr.injEq, reduceCtorEq] at h <;> obtain ⟨rfl, rfl⟩ := h <;> decide
theorem Sg.dep_st {σ : Sg} {fs : List Sg} (h : σ.inf = .st fs) : ∀ τ ∈ fs, τ.dep < σ.dep ∧ τ ≠ .none := by
  cases σ <;> simp only [Sg.inf, Inf.st.injEq, reduceCtorEq] at h <;> subst h <;> decide

theorem app_iff {α : Type} {a b c d : List α} (h : a.length = c.length) : a ++ b = c ++ d ↔ a = c ∧ b = d := by
  constructor
  · intro e; exact List.append_inj e h
  · rintro ⟨rfl, rfl⟩; rfl

theorem drop_split {α : Type} (xs : List α) (o a b : Nat) : (xs.drop o).take (a + b) = (xs.drop o).take a ++ (xs.drop (o + a)).take b := by
  rw [List.take_add, List.drop_drop]

theorem eqItems_run {d : Nat} {e : TypeId} {c : Nat} {cs ds : List CK} {xs ys : List Int} {w : World}
    (step : ∀ i o, o = i * c → o + c ≤ xs.length → ∃ u v, (part e (cellsV cs xs).toArray o).run P w = .ok u w ∧ (part e (cellsV ds ys).toArray o).run P w = .ok v w ∧ (Op.equalIn d e u v).run P w = .ok (decide ((xs.drop o).take c = (ys.drop o).take c)) w)
    (hl : xs.length = ys.length) : ∀ (m k : Nat), (k + m) * c ≤ xs.length →
    (Op.eqItems d e c (cellsV cs xs).toArray (cellsV ds ys).toArray (List.range' k m)).run P w = .ok (decide ((xs.drop (k * c)).take (m * c) = (ys.drop (k * c)).take (m * c))) w := by
  intro m
  induction m with
  | zero => intro k _; simp [Op.eqItems]
  | succ m ih =>
    intro k hk
    have hkc : (k + (m + 1)) * c = k * c + c + m * c := by rw [Nat.add_mul, Nat.succ_mul]; omega
    obtain ⟨u, v, h1, h2, h3⟩ := step k (k * c) rfl (by omega)
    rw [List.range'_succ]
    simp only [Op.eqItems, Sem.run_bind, h1, h2, h3, Result.andThen_ok]
    have hi := ih (k + 1) (by rw [show k + 1 + m = k + (m + 1) from by omega]; exact hk)
    have e1 : (k + 1) * c = k * c + c := Nat.succ_mul k c
    rw [e1] at hi
    rw [show (m + 1) * c = c + m * c from by rw [Nat.succ_mul]; omega, drop_split, drop_split]
    have hlen : ((xs.drop (k * c)).take c).length = ((ys.drop (k * c)).take c).length := by simp [hl]
    by_cases heq : (xs.drop (k * c)).take c = (ys.drop (k * c)).take c
    · simp only [heq, decide_true, Bool.not_true, Bool.false_eq_true, if_false, hi]
      congr 1
      simp
    · simp only [heq, decide_false, Bool.not_false, if_true, Sem.run_pure]
      congr 1
      rw [eq_comm, decide_eq_false_iff_not, app_iff hlen]
      exact fun h => heq h.1

theorem eqFields_run {d : Nat} {cs ds : List CK} {xs ys : List Int} {w : World} (hl : xs.length = ys.length) : ∀ (gl : List Field) (fl : List Sg) (o : Nat), gl.length = fl.length →
    (∀ i g τ, gl[i]? = some g → fl[i]? = some τ → g.offset = o + sumN (fl.take i) ∧ g.name ≠ "_" ∧
      ∃ u v, (part g.type (cellsV cs xs).toArray g.offset).run P w = .ok u w ∧ (part g.type (cellsV ds ys).toArray g.offset).run P w = .ok v w ∧ (Op.equalIn d g.type u v).run P w = .ok (decide ((xs.drop g.offset).take τ.n = (ys.drop g.offset).take τ.n)) w) →
    (Op.eqFields d (cellsV cs xs).toArray (cellsV ds ys).toArray gl).run P w = .ok (decide ((xs.drop o).take (sumN fl) = (ys.drop o).take (sumN fl))) w := by
  intro gl
  induction gl with
  | nil =>
    intro fl o hlen _
    cases fl with
    | nil => simp [Op.eqFields, sumN]
    | cons a l => simp at hlen
  | cons g gl ih =>
    intro fl o hlen hall
    cases fl with
    | nil => simp at hlen
    | cons τ fl =>
      obtain ⟨ho, hnm, u, v, h1, h2, h3⟩ := hall 0 g τ rfl rfl
      simp only [List.take_zero, sumN, Nat.add_zero] at ho
      rw [ho] at h1 h2 h3
      have hi := ih fl (o + τ.n) (by simpa using hlen) (fun i g' τ' hg hf => by
        obtain ⟨h1, h2, h3⟩ := hall (i + 1) g' τ' (by simpa using hg) (by simpa using hf)
        refine ⟨?_, h2, h3⟩
        rw [h1]; simp only [List.take_succ_cons, sumN]; omega)
      simp only [Op.eqFields, hnm, ne_eq, not_false_eq_true, if_true, Sem.run_bind, ho, h1, h2, h3, Result.andThen_ok]
      have hlen' : ((xs.drop o).take τ.n).length = ((ys.drop o).take τ.n).length := by simp [hl]
      have key : (xs.drop o).take (sumN (τ :: fl)) = (ys.drop o).take (sumN (τ :: fl)) ↔ (xs.drop o).take τ.n = (ys.drop o).take τ.n ∧ (xs.drop (o + τ.n)).take (sumN fl) = (ys.drop (o + τ.n)).take (sumN fl) := by
        show (xs.drop o).take (τ.n + sumN fl) = (ys.drop o).take (τ.n + sumN fl) ↔ _
        rw [drop_split, drop_split, app_iff hlen']
      by_cases heq : (xs.drop o).take τ.n = (ys.drop o).take τ.n
      · simp only [heq, decide_true, Bool.not_true, Bool.false_eq_true, if_false, hi]
        congr 1
        rw [decide_eq_decide, key]
        exact ⟨fun h => ⟨heq, h⟩, fun h => h.2⟩
      · simp only [heq, decide_false, Bool.not_false, if_true, Sem.run_pure]
        congr 1
        rw [eq_comm, decide_eq_false_iff_not, key]
        exact fun h => heq h.1

theorem fldAt_get : ∀ (fs : List Sg) (i : Nat) (τ : Sg), fs[i]? = some τ → fldAt fs i = some (sumN (fs.take i), τ)
  | [], i, τ, h => by simp at h
  | a :: l, 0, τ, h => by simp at h; subst h; rfl
  | a :: l, i + 1, τ, h => by
    have := fldAt_get l i τ (by simpa using h)
    simp only [fldAt, this, List.take_succ_cons, sumN]

theorem eq_sound (H : TabOk P Γ) (w : World) : ∀ (m : Nat) (σ : Sg) (t : TypeId) (d : Nat) (xs ys : List Int), σ.dep < m → Γ.sg t = σ → σ ≠ .none → σ.pure = true → xs.length = σ.n → ys.length = σ.n → cellsOk σ.flat xs → cellsOk σ.flat ys →
    (Op.equalIn (d + m) t (valOf σ xs) (valOf σ ys)).run P w = .ok (decide (xs = ys)) w
  | 0, _, _, _, _, _, h, _, _, _, _, _, _, _ => by omega
  | m + 1, σ, t, d, xs, ys, hm, ht, hn, hp, hx, hy, hox, hoy => by
    have hfl := Sg.flat_len σ hp
    cases hi : σ.inf with
    | cell k =>
      obtain ⟨f1, f2, -⟩ := Sg.cell_flat σ k hi
      have hu := H.cell ht hi
      obtain ⟨x, rfl⟩ := List.length_eq_one_iff.1 (hx.trans f2)
      obtain ⟨y, rfl⟩ := List.length_eq_one_iff.1 (hy.trans f2)
      unfold valOf
      rw [hi]
      dsimp only [List.getD_cons_zero]
      cases k with
      | int k =>
        show (Op.equalIn (d + m + 1) t (.int k x) (.int k y)).run P w = _
        rw [run_equalIn_int w (d + m) t k k x y hu]
        congr 1
        rw [Bool.eq_iff_iff]; simp
      | bool =>
        show (Op.equalIn (d + m + 1) t (.bool (x != 0)) (.bool (y != 0))).run P w = _
        rw [run_equalIn_bool' w (d + m) t _ _ hu]
        rw [f1] at hox hoy
        have h1 : x = 0 ∨ x = 1 := hox.1
        have h2 : y = 0 ∨ y = 1 := hoy.1
        congr 1
        rcases h1 with rfl | rfl <;> rcases h2 with rfl | rfl <;> rfl
    | arr n e =>
      obtain ⟨t', hu, he, -⟩ := H.arr ht hi
      obtain ⟨g1, g2, g3, g4⟩ := Sg.arr_flat σ e n hi
      have hd := Sg.dep_arr hi
      have hne : e ≠ .none := by rintro rfl; simp [Sg.n] at g4
      have hel := Sg.flat_len e g3
      obtain ⟨i, z, hi', hsz, -, -⟩ := H.parts he hne
      unfold valOf
      rw [hi]
      dsimp only
      rw [← Nat.add_assoc, run_equalIn_array w (d + m) _ _ hu hi', show P.cellsOf t' = e.n from by simp [Program.cellsOf, hi', hsz], List.range_eq_range']
      have := eqItems_run (P := P) (d := d + m) (e := t') (c := e.n) (cs := σ.flat) (ds := σ.flat) (xs := xs) (ys := ys) (w := w) (fun i o ho hle => by
        have hk : ∀ j, j < e.n → σ.flat[o + j]? = e.flat[j]? := by
          intro j hj
          rw [g1, ho, ← hel]
          have hin : i < n := by
            rcases Nat.lt_or_ge i n with h | h
            · exact h
            · have := Nat.mul_le_mul_right e.n h; omega
          exact rep_get e.flat n i j hin (by omega)
        refine ⟨_, _, part_run H he hne g3 (by omega) hk w, part_run H he hne g3 (by omega) hk w, ?_⟩
        exact eq_sound H w m e t' d _ _ (by omega) he hne g3 (by rw [List.length_take, List.length_drop]; omega) (by rw [List.length_take, List.length_drop]; omega) (cellsOk_sub _ _ _ _ _ hel hk hox) (cellsOk_sub _ _ _ _ _ hel hk hoy)) (by omega) n 0 (by rw [Nat.zero_add]; omega)
      rw [this]
      congr 1
      rw [Nat.zero_mul, List.drop_zero, List.drop_zero, ← g2, List.take_of_length_le (by omega), List.take_of_length_le (by omega)]
    | st fs =>
      obtain ⟨gs, hu, hf, hst, -⟩ := H.st ht hn hi
      obtain ⟨g1, g2, g3⟩ := Sg.st_flat σ fs hi
      have hd := Sg.dep_st hi
      have hfo : P.fieldsOf t = gs := by unfold Program.fieldsOf; rw [hu]
      unfold valOf
      rw [hi]
      dsimp only
      rw [← Nat.add_assoc, run_equalIn_struct w (d + m) t _ _ (by rw [hfo]; exact hu) hst, hfo]
      have hsz : gs.toList.length = fs.length := by
        have h0 := hf
        unfold fldsOk at h0
        simp only [Bool.and_eq_true, beq_iff_eq] at h0
        simpa using h0.1
      have := eqFields_run (P := P) (d := d + m) (cs := σ.flat) (ds := σ.flat) (xs := xs) (ys := ys) (w := w) (by omega) gs.toList fs 0 hsz (fun i g τ hg hτ => by
        have hfa := fldAt_get fs i τ hτ
        obtain ⟨g', hg', ho, hty, hnm⟩ := fldsOk_at hf hfa
        have : g' = g := by rw [Array.getElem?_toList] at hg; rw [hg] at hg'; exact (Option.some.inj hg').symm
        subst this
        have hmem : τ ∈ fs := List.mem_of_getElem? hτ
        obtain ⟨q1, q2⟩ := flats_fld fs i _ τ g3 hfa
        rw [← g2] at q1
        rw [← g1] at q2
        refine ⟨by omega, hnm, ?_⟩
        rw [ho]
        refine ⟨_, _, part_run H hty (hd τ hmem).2 (g3 τ hmem) (by omega) q2 w, part_run H hty (hd τ hmem).2 (g3 τ hmem) (by omega) q2 w, ?_⟩
        exact eq_sound H w m τ g'.type d _ _ (by have := (hd τ hmem).1; omega) hty (hd τ hmem).2 (g3 τ hmem) (by rw [List.length_take, List.length_drop]; omega) (by rw [List.length_take, List.length_drop]; omega) (cellsOk_sub _ _ _ _ _ (Sg.flat_len τ (g3 τ hmem)) q2 hox) (cellsOk_sub _ _ _ _ _ (Sg.flat_len τ (g3 τ hmem)) q2 hoy))
      rw [this]
      congr 1
      rw [List.drop_zero, List.drop_zero, ← g2, List.take_of_length_le (by omega), List.take_of_length_le (by omega)]
    | str => exact absurd hi (pure_no hp).1
    | ref => exact absurd hi (pure_no hp).2

end Go.Eng
