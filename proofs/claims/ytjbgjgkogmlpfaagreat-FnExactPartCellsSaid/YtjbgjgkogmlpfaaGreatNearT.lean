/- spec.l03Near: searches until none is found; the table of what is seen last. -/
import Derived.Test.YtjbgjgkogmlpfaaGreatReachW
import Derived.Test.YtjbgjgkogmlpfaaGreatNearW
namespace Go.Proofs.YtjbgjgkogmlpfaaGreat
open Go Go.Eng
set_option linter.unusedSimpArgs false
set_option linter.unusedVariables false
open Go.Proofs.YtjbgjgkogmlpfaaGreat.Fl (cl isC ix TabInv matT valL ReachOk)
set_option maxRecDepth 100000
set_option maxHeartbeats 4000000

theorem rch_ok {p fl a b : List Int} {A G : List (List Int)} (h : RIn p fl a b A G) : ReachOk (nbQ p) A G fl (rchR p fl a b) := by
  have hAC : ∀ s, s ∈ A → isC s := fun s hs => isC_of h.ok (h.src s hs).1 (h.src s hs).2
  obtain ⟨h1, h2⟩ := st0_ok fl h.ok h.src h.ma
  exact Fl.reach_ok (goQ_ok h.ok) hAC h.dis h.inv h.mb 101 0 (st0 p a) h1 h2 (Nat.zero_le _) (by omega) fun j hj => absurd hj (Nat.not_lt_zero _)
theorem RIn.next {p fl fl' a b : List Int} {A G : List (List Int)} (h : RIn p fl a b A G) (hT : TabInv (nbQ p) A G fl') : RIn p fl' a b A G := ⟨h.ok, h.src, h.dis, h.ma, h.mb, hT⟩
theorem zero_get (n j : Nat) : (List.replicate n (0 : Int)).getD j 0 = 0 := by
  rw [List.getD_eq_getElem?_getD, List.getElem?_replicate]; split <;> rfl
theorem zero_mat (u v : Nat) : matT (List.replicate 200 0) u v = 0 := by
  unfold matT Fl.gE
  simp only [zero_get]
  (repeat' split) <;> rfl
theorem zero_inv (nb : List Int → List (List Int)) (A G : List (List Int)) : TabInv nb A G (List.replicate 200 0) where
  len := List.length_replicate
  flow := ⟨fun u v => by rw [zero_mat, zero_mat]; rfl, fun u v _ _ => by rw [zero_mat]; unfold Fl.capI; split <;> decide, fun u _ _ _ => by
    have : matT (List.replicate 200 0) u = fun _ => 0 := by funext v; exact zero_mat u v
    rw [this]; exact Fl.sgN_zero 100⟩
theorem mask_cl {rows : List (List Int)} (h : ∀ s, s ∈ rows → inG s) (hl : ∀ s, s ∈ rows → s.length = 2) : ∀ k, k < 100 → ((srcD rows rows.length).getD k 0 ≠ 0 ↔ cl k ∈ rows) := fun k hk => by
  have hr : cellsR rows := fun s hs => ⟨h s hs, hl s hs⟩
  have hc : inG (cl k) := by unfold inG cl; simp only [List.getD_cons_zero, List.getD_cons_succ]; omega
  obtain ⟨h1, h2⟩ := mask_has hr hc rfl
  have e : cx (cl k) = k := Fl.ix_cl hk
  rw [e] at h1 h2
  rw [Ne, h2]
  rw [hasR_iff]
  simp
theorem nearQ_iff {p : List Int} {A G : List (List Int)} {s : List Int} : nearQ p A G s = true ↔ Fl.nearP (nbQ p) A G s := by
  unfold nearQ Fl.nearB
  exact @decide_eq_true_iff _ (Classical.propDecidable _)
/-- The table of the cells near the source. -/
noncomputable def nearTb (p : List Int) (A G : List (List Int)) : List Int := (List.range 100).map fun k => if nearQ p A G (cl k) = true then 1 else 0
theorem nearTb_get {p : List Int} {A G : List (List Int)} {k : Nat} (hk : k < 100) : (nearTb p A G).getD k 0 = if nearQ p A G (cl k) = true then 1 else 0 := by
  unfold nearTb
  rw [List.getD_eq_getElem?_getD, List.getElem?_map, List.getElem?_range hk]; rfl
theorem nearTb_eq {p : List Int} {A G : List (List Int)} {T : List Int} {F : Nat → Nat → Int} (hl : T.length = 100) (hb : ∀ k, k < 100 → T.getD k 0 = 0 ∨ T.getD k 0 = 1) (hF : Fl.Flw (nbQ p) A G F) (hR : Fl.NearF (nbQ p) A G F fun k => T.getD k 0 ≠ 0) : T = nearTb p A G := by
  refine List.ext_getElem? fun k => ?_
  by_cases hk : k < 100
  · have h1 := nearTb_get (p := p) (A := A) (G := G) hk
    have h2 : nearQ p A G (cl k) = true ↔ T.getD k 0 ≠ 0 := by
      exact nearQ_iff.trans (Fl.nearP_iff hF hR hk)
    have hl2 : (nearTb p A G).length = 100 := by unfold nearTb; rw [List.length_map, List.length_range]
    have e1 : T[k]? = some (T.getD k 0) := by rw [List.getD_eq_getElem?_getD, List.getElem?_eq_getElem (by omega)]; rfl
    have e2 : (nearTb p A G)[k]? = some ((nearTb p A G).getD k 0) := by rw [List.getD_eq_getElem?_getD, List.getElem?_eq_getElem (by omega)]; rfl
    rw [e1, e2, h1]
    rcases hb k hk with h | h
    · rw [if_neg (fun g => h2.1 g h), h]
    · rw [if_pos (h2.2 (by rw [h]; decide)), h]
  · rw [List.getElem?_eq_none (by omega), List.getElem?_eq_none (by unfold nearTb; rw [List.length_map, List.length_range]; omega)]
noncomputable def l03NearS : Fun
  | [.pw 0 .pas, .fs .spot A, .fs .spot G], [.c .pas p] => some (.ag .bgrid (nearTb p A G), [.c .pas p], [okD p ∧ inP p A ∧ inP p G ∧ (∀ s, s ∈ A → s ∉ G) ∧ A.length ≤ 10000000 ∧ G.length ≤ 10000000])
  | _, _ => .none
set_option maxRecDepth 100000 in
theorem s_l03Near : Sound Tryz.prog 15 l03NearS := by
  intro args M r M' vs h hvs
  unfold l03NearS at h
  split at h
  case h_2 => cases h
  rename_i A G p
  cases h
  refine SpecOK.assume fun hA hM => ?_
  have htb := (TbOk.cons s_l01Mask Tryz.func26 rfl rfl (TbOk.cons s_reach Tryz.func27 rfl rfl (TbOk.nil : TbOk Tryz.prog tb0)))
  refine SpecOK.of_goes [0] Tryz.func15 rfl ?_
  obtain ⟨⟨hd, hAp, hGp, hdis, hl1, hl2⟩, -⟩ := hvs
  have hA2 : ∀ s, s ∈ A → s.length = 2 := fun s hs => (hA.2.2.1 s hs).1
  have hG2 : ∀ s, s ∈ G → s.length = 2 := fun s hs => (hA.2.2.2.2.1 s hs).1
  clear hA hM
  have hAG : ∀ s, s ∈ A → inG s := fun s hs => inG_of' hd (hAp s hs)
  have hGG : ∀ s, s ∈ G → inG s := fun s hs => inG_of' hd (hGp s hs)
  have hI : RIn p (List.replicate 200 0) (srcD A A.length) (srcD G G.length) A G := ⟨hd, fun s hs => ⟨hAp s hs, hA2 s hs⟩, hdis, mask_cl hAG hA2, mask_cl hGG hG2, zero_inv _ _ _⟩
  have hle := fun (fl : List Int) (h : TabInv (nbQ p) A G fl) => Fl.valL_le h.flow hdis
  refine Goes.tree Γ_ok htb 1000 false false Tryz.func15 rfl ?_
  ((try simp only [decide_eq_true_eq, decide_eq_false_iff_not, Bool.not_eq_true', Bool.not_eq_false', Bool.not_true, Bool.not_false, Bool.and_eq_true, Bool.or_eq_true, bne_iff_ne, beq_iff_eq, ne_eq]); (try simp only [rng, lo, hi, mnI, mxI, Int.toNat_natCast, Sg.n, Nat.mul_one, Nat.zero_add, Nat.add_zero, Nat.reduceAdd, List.getD_cons_zero, List.getD_cons_succ]))
  ((repeat' (first | (with_reducible apply And.intro) | intro _)); all_goals (first | exact trivial | (with_reducible assumption) | (show (_ : List Blk) = _; rfl) | (first | exact trivial | (with_reducible assumption) | omega | (split <;> omega) | (split <;> split <;> omega)) | skip); all_goals (try (refine ⟨rfl, (by first | exact Nat.le_refl _ | exact Nat.le_of_ble_eq_true rfl), rfl, rfl, ?_, (by repeat' (first | exact trivial | rfl | apply And.intro)), rfl, rfl⟩)))
  · exact hAG _ (by assumption)
  · exact hGG _ (by assumption)
  · exact ⟨A, G, hI⟩
  generalize srcD A A.length = a at *
  generalize srcD G G.length = b at *
  refine ⟨?_⟩
  refine Goes.loopR (fun f : List Int => (10000 - valL A (matT f)).toNat) (fun f => RIn p f a b A G) (fun f => (.pw 0 .pas :: .any :: .any :: .any :: .any :: .any :: .pw 1 .bgrid :: .pw 2 .bgrid :: .pw 3 .bgrid :: .pw 4 .flo :: .pw 5 .bgrid :: .b (rchR p f a b).2.2 :: .any :: .any :: .any :: .any :: .any :: .any :: .any :: .any :: .any :: .any :: .any :: .any :: .any :: .any :: .any :: .any :: .any :: []))
    (fun f => [.c .pas p, .c .bgrid (List.replicate 100 0), .c .bgrid a, .c .bgrid b, .c .flo (rchR p f a b).1, .c .bgrid (rchR p f a b).2.1]) (List.replicate 200 0) [0, 1, 2, 3, 4, 5] hI ⟨rfl, rfl, rfl, (by repeat' (first | exact trivial | rfl | apply And.intro)), (by repeat' (first | exact trivial | rfl | apply And.intro)), rfl, rfl, rfl⟩ fun f hf ih => ?_
  have hR := rch_ok hf
  have hyes := hR.yes
  have hno := hR.no
  have ih := ih (rchR p f a b).1
  cases hm : (rchR p f a b).2.2 with
  | true =>
    obtain ⟨h1, h2⟩ := hyes hm
    have h3 := hle _ h1
    have h4 := hf.next h1
    refine Goes.tree Γ_ok htb 1000 false false Tryz.func15 rfl ?_
    ((try simp only [decide_eq_true_eq, decide_eq_false_iff_not, Bool.not_eq_true', Bool.not_eq_false', Bool.not_true, Bool.not_false, Bool.and_eq_true, Bool.or_eq_true, bne_iff_ne, beq_iff_eq, ne_eq]); (try simp only [rng, lo, hi, mnI, mxI, Int.toNat_natCast, Sg.n, Nat.mul_one, Nat.zero_add, Nat.add_zero, Nat.reduceAdd, List.getD_cons_zero, List.getD_cons_succ, hm]))
    (repeat' (first | (with_reducible apply And.intro) | intro _))
    all_goals (try with_reducible first | exact no_tf (by with_reducible assumption) | exact no_ft (by with_reducible assumption) | exact no_nt (by with_reducible assumption))
    all_goals (try first | exact trivial | exact ⟨A, G, h4⟩)
    all_goals exact ⟨ih h4 (by omega) [0, 1, 2, 3, 4, 5] _ _ ⟨rfl, rfl, rfl, (by repeat' (first | exact trivial | rfl | apply And.intro)), (by repeat' (first | exact trivial | rfl | apply And.intro)), rfl, rfl, rfl⟩⟩
  | false =>
    obtain ⟨h1, h2⟩ := hno hm
    have e := nearTb_eq hR.len hR.bit hf.inv.flow h2
    rw [← e]
    clear ih
    refine Goes.tree Γ_ok htb 1000 false false Tryz.func15 rfl ?_
    ((try simp only [decide_eq_true_eq, decide_eq_false_iff_not, Bool.not_eq_true', Bool.not_eq_false', Bool.not_true, Bool.not_false, Bool.and_eq_true, Bool.or_eq_true, bne_iff_ne, beq_iff_eq, ne_eq]); (try simp only [rng, lo, hi, mnI, mxI, Int.toNat_natCast, Sg.n, Nat.mul_one, Nat.zero_add, Nat.add_zero, Nat.reduceAdd, List.getD_cons_zero, List.getD_cons_succ, hm]))
    (repeat' (first | (with_reducible apply And.intro) | intro _))
    all_goals (try with_reducible first | exact no_tf (by with_reducible assumption) | exact no_ft (by with_reducible assumption) | exact no_nt (by with_reducible assumption))
    all_goals (try exact trivial)
    (refine ⟨rfl, (by first | exact Nat.le_refl _ | exact Nat.le_of_ble_eq_true rfl), rfl, rfl, ?_, (by repeat' (first | exact trivial | rfl | apply And.intro)), rfl, rfl⟩)
    exact sameA_refl _

def partB (A G : List (List Int)) : Bool := A.any fun s => hasR G s
theorem partB_iff {A G : List (List Int)} : partB A G = true ↔ ∃ s, s ∈ A ∧ s ∈ G := by
  unfold partB
  rw [List.any_eq_true]
  constructor
  · rintro ⟨s, h1, h2⟩
    rw [hasR_iff, decide_eq_true_eq] at h2
    exact ⟨s, h1, h2⟩
  · rintro ⟨s, h1, h2⟩
    exact ⟨s, h1, by rw [hasR_iff]; exact decide_eq_true h2⟩
/-- The code of cells that shall be parted. -/
def partC (p : List Int) (A G : List (List Int)) : Int := if codeP p A ≠ 0 then codeP p A else if codeP p G ≠ 0 then codeP p G else if partB A G = true then 4 else 0
def listsS : Fun
  | [.pw 0 .pas, .fs .spot A, .fs .spot G], [.c .pas p] => some (.i .i64 (if codeP p A ≠ 0 then codeP p A else codeP p G), [.c .pas p], [A.length ≤ 10000000 ∧ G.length ≤ 10000000])
  | _, _ => .none
end Go.Proofs.YtjbgjgkogmlpfaaGreat
