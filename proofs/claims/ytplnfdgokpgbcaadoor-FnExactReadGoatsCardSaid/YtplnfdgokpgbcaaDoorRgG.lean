/- The text of a plain goat is read as that goat: plain. -/
import Derived.Test.YtplnfdgokpgbcaaDoorRgE
namespace Go.Proofs.YtplnfdgokpgbcaaDoor
open Go Go.Eng
set_option linter.unusedSimpArgs false
set_option linter.unusedVariables false
set_option maxRecDepth 100000
set_option maxHeartbeats 4000000

theorem spB_one {b : UInt8} {m : List UInt8} (h : b ∉ m) : spB b m = [m] := by
  have := spB_app b m [] h
  rw [List.append_nil] at this
  rw [this]
  show [m ++ []] = [m]
  rw [List.append_nil]
theorem spB_sep {b : UInt8} {m l : List UInt8} (h : b ∉ m) : spB b (m ++ b :: l) = m :: spB b l := by
  rw [spB_app b m _ h]
  have : spB b (b :: l) = [] :: spB b l := by rw [spB, if_pos rfl]
  rw [this]
  show (m ++ []) :: _ = _
  rw [List.append_nil]
theorem map_inj {α β : Type} {f : α → β} (hf : ∀ x y, f x = f y → x = y) : ∀ {l r : List α}, l.map f = r.map f → l = r
  | [], [], _ => rfl
  | [], _ :: _, h => by simp at h
  | _ :: _, [], h => by simp at h
  | a :: l, b :: r, h => by
    simp only [List.map_cons, List.cons.injEq] at h
    rw [hf a b h.1, map_inj hf h.2]
theorem splL_of {s : ByteArray} {b : UInt8} {L : List ByteArray} (h : spB b s.data.toList = L.map (·.data.toList)) : splL s (b.toNat : Int) = L :=
  map_inj (f := fun x : ByteArray => x.data.toList) (fun x y e => ba_ext e) ((splL_spB s b).trans h)
theorem dig_no {n : Nat} {b : UInt8} (hb : ¬ isD b) : b ∉ (digS n).data.toList := fun h => by
  rw [dig_list] at h
  exact hb ((dec_ok n).1.2.1 _ h)
theorem not_D {b : UInt8} (h : b.toNat < 48 ∨ 57 < b.toNat) : ¬ isD b := fun g => by unfold isD at g; omega
theorem one_list (b : UInt8) : (⟨#[b]⟩ : ByteArray).data.toList = [b] := rfl
theorem spT_list (s : List Int) : (spT s).data.toList = (digS (s.getD 0 0).toNat).data.toList ++ 44 :: (digS (s.getD 1 0).toNat).data.toList := by
  unfold spT
  rw [cat_list, cat_list, one_list, List.append_assoc]; rfl
theorem spT_no {s : List Int} {b : UInt8} (hb : ¬ isD b) (h : b ≠ 44) : b ∉ (spT s).data.toList := by
  rw [spT_list, List.mem_append, List.mem_cons]
  rintro (g | g | g)
  · exact dig_no hb g
  · exact h g
  · exact dig_no hb g
theorem nv_dig {n : Nat} (h : n < 1000000000) : numB (digS n) = true ∧ nv (digS n) = n := by
  obtain ⟨h1, h2⟩ := dig_num h
  exact ⟨h1, (if_pos h1).trans h2⟩
theorem spot_back {s : List Int} (h : inF s = true) : spO (spT s) = true ∧ spX (spT s) = s.getD 0 0 ∧ spY (spT s) = s.getD 1 0 := by
  obtain ⟨h1, h2, h3, h4⟩ := inF_iff.1 h
  have e44 : (((44 : UInt8).toNat : Nat) : Int) = 44 := rfl
  have hd : (44 : UInt8) ∉ (digS (s.getD 0 0).toNat).data.toList := dig_no (not_D (.inl (by decide)))
  have hd2 : (44 : UInt8) ∉ (digS (s.getD 1 0).toNat).data.toList := dig_no (not_D (.inl (by decide)))
  have hs := splL_of (s := spT s) (b := 44) (L := [digS (s.getD 0 0).toNat, digS (s.getD 1 0).toNat]) (by rw [spT_list, spB_sep hd, spB_one hd2]; rfl)
  rw [e44] at hs
  have pa' : pa (spT s) = digS (s.getD 0 0).toNat := by unfold pa; rw [hs]; rfl
  have pb' : pb (spT s) = digS (s.getD 1 0).toNat := by unfold pb; rw [hs]; rfl
  obtain ⟨a1, a2⟩ := nv_dig (n := (s.getD 0 0).toNat) (by omega)
  obtain ⟨b1, b2⟩ := nv_dig (n := (s.getD 1 0).toNat) (by omega)
  have hO : spO (spT s) = true := (spO_iff _).2 ⟨by rw [hs]; rfl, by rw [pa']; exact a1, by rw [pb']; exact b1, by rw [pa', a2]; omega, by rw [pb', b2]; omega⟩
  refine ⟨hO, ?_, ?_⟩
  · unfold spX; rw [if_pos hO, pa', a2]; omega
  · unfold spY; rw [if_pos hO, pb', b2]; omega
/-- The line of a goat, without its end. -/
def lnT (g : List Int) : ByteArray := spT g ++ ⟨#[32]⟩ ++ tieT g ++ ⟨#[32]⟩ ++ digS (g.getD 5 0).toNat ++ ⟨#[32]⟩ ++ likW g
theorem linT_eq (g : List Int) : linT g = lnT g ++ ⟨#[10]⟩ := rfl
theorem free_no {b : UInt8} (h : b.toNat < 97) : b ∉ freeB.data.toList := fun g => by
  have : ∀ c ∈ freeB.data.toList, 97 ≤ c.toNat := by decide
  have := this b g
  omega
theorem lik_no {b : UInt8} (h : b.toNat < 97) (g : List Int) : b ∉ (likW g).data.toList := fun q => by
  unfold likW at q
  split at q
  · have : ∀ c ∈ (⟨#[114, 105, 99, 104]⟩ : ByteArray).data.toList, 97 ≤ c.toNat := by decide
    have := this b q
    omega
  · have : ∀ c ∈ (⟨#[110, 101, 97, 114]⟩ : ByteArray).data.toList, 97 ≤ c.toNat := by decide
    have := this b q
    omega
theorem tie_no {g : List Int} {b : UInt8} (hb : ¬ isD b) (h : b ≠ 44) (h' : b ≠ 126) (hl : b.toNat < 97) : b ∉ (tieT g).data.toList := by
  unfold tieT
  split
  · rw [cat_list, cat_list, one_list]
    simp only [List.mem_append, List.mem_singleton]
    rintro ((q | q) | q)
    · exact spT_no hb h q
    · exact h' q
    · exact dig_no hb q
  · exact free_no hl
theorem ln_list (g : List Int) : (lnT g).data.toList = (spT g).data.toList ++ 32 :: ((tieT g).data.toList ++ 32 :: ((digS (g.getD 5 0).toNat).data.toList ++ 32 :: (likW g).data.toList)) := by
  unfold lnT
  simp only [cat_list, one_list, List.append_assoc]; rfl
theorem ln_split (g : List Int) : splL (lnT g) 32 = [spT g, tieT g, digS (g.getD 5 0).toNat, likW g] := by
  have e32 : (((32 : UInt8).toNat : Nat) : Int) = 32 := rfl
  have n32 : ¬ isD (32 : UInt8) := not_D (.inl (by decide))
  have hs := splL_of (s := lnT g) (b := 32) (L := [spT g, tieT g, digS (g.getD 5 0).toNat, likW g]) (by
    rw [ln_list, spB_sep (spT_no n32 (by decide)), spB_sep (tie_no n32 (by decide) (by decide) (by decide)), spB_sep (dig_no n32), spB_one (lik_no (by decide) g)]; rfl)
  rw [e32] at hs
  exact hs
/-- A goat that can be told is read from its line. -/
theorem line_back {g : List Int} (h7 : g.length = 7) (h : nogG g = false) : goP (lnT g) ∧ goV (lnT g) = g := by
  obtain ⟨a, b, c, d, e, f, q, rfl⟩ := len7 h7
  obtain ⟨ha, hc, hp⟩ := nog_iff.1 h
  obtain ⟨he, hf, hq, hor⟩ := plG_iff.1 hp
  have hs := ln_split [a, b, c, d, e, f, q]
  have w0 : gw (lnT [a, b, c, d, e, f, q]) 0 = spT [a, b, c, d, e, f, q] := by unfold gw; rw [hs]; rfl
  have w1 : gw (lnT [a, b, c, d, e, f, q]) 1 = tieT [a, b, c, d, e, f, q] := by unfold gw; rw [hs]; rfl
  have w2 : gw (lnT [a, b, c, d, e, f, q]) 2 = digS f.toNat := by unfold gw; rw [hs]; rfl
  have w3 : gw (lnT [a, b, c, d, e, f, q]) 3 = likW [a, b, c, d, e, f, q] := by unfold gw; rw [hs]; rfl
  obtain ⟨s1, s2, s3⟩ := spot_back (s := [a, b, c, d, e, f, q]) (inF_iff.2 ⟨ha.1, ha.2.1, ha.2.2.1, ha.2.2.2⟩)
  obtain ⟨f1, f2⟩ := nv_dig (n := f.toNat) (by omega)
  have hlk : likW [a, b, c, d, e, f, q] = if q = 0 then richB else nearB := rfl
  have hl : likW [a, b, c, d, e, f, q] = richB ∨ likW [a, b, c, d, e, f, q] = nearB := by
    rw [hlk]; split
    · exact .inl rfl
    · exact .inr rfl
  have hz : (if likW [a, b, c, d, e, f, q] = nearB then (1:Int) else 0) = q := by
    rw [hlk]
    by_cases h0 : q = 0
    · rw [if_pos h0, if_neg (by decide), h0]
    · rw [if_neg h0, if_pos rfl]; omega
  have h4 : ((splL (lnT [a, b, c, d, e, f, q]) 32).length : Int) = 4 := by rw [hs]; rfl
  have n100 : ¬ 100 < nv (digS f.toNat) := by rw [f2]; omega
  have x2 : spX (spT [a, b, c, d, e, f, q]) = a := s2
  have x3 : spY (spT [a, b, c, d, e, f, q]) = b := s3
  by_cases h0 : 0 ≤ e
  · have ht : tieT [a, b, c, d, e, f, q] = spT [c, d, e, f, q] ++ ⟨#[126]⟩ ++ digS e.toNat := if_pos h0
    obtain ⟨c1, c2, c3⟩ := spot_back (s := [c, d, e, f, q]) (inF_iff.2 ⟨hc.1, hc.2.1, hc.2.2.1, hc.2.2.2⟩)
    obtain ⟨e1, e2⟩ := nv_dig (n := e.toNat) (by omega)
    have e126 : (((126 : UInt8).toNat : Nat) : Int) = 126 := rfl
    have n126 : ¬ isD (126 : UInt8) := not_D (.inr (by decide))
    have hts := splL_of (s := tieT [a, b, c, d, e, f, q]) (b := 126) (L := [spT [c, d, e, f, q], digS e.toNat]) (by
      rw [ht, cat_list, cat_list, one_list, List.append_assoc]
      show spB 126 ((spT [c, d, e, f, q]).data.toList ++ 126 :: (digS e.toNat).data.toList) = _
      rw [spB_sep (spT_no n126 (by decide)), spB_one (dig_no n126)]; rfl)
    rw [e126] at hts
    have t0 : tw (tieT [a, b, c, d, e, f, q]) 0 = spT [c, d, e, f, q] := by unfold tw; rw [hts]; rfl
    have t1 : tw (tieT [a, b, c, d, e, f, q]) 1 = digS e.toNat := by unfold tw; rw [hts]; rfl
    have hT : tieP (tieT [a, b, c, d, e, f, q]) := ⟨by rw [hts]; rfl, by rw [t0]; exact c1, by rw [t1]; exact e1, by rw [t1, e2]; omega⟩
    have hnf : ¬ tieT [a, b, c, d, e, f, q] = freeB := fun g => by
      have : (126 : UInt8) ∈ (tieT [a, b, c, d, e, f, q]).data.toList := by
        rw [ht, cat_list, cat_list, one_list]; simp
      rw [g] at this
      revert this; decide
    refine ⟨⟨h4, .inr (by rw [w1]; exact hT), by rw [w0]; exact s1, by rw [w2]; exact f1, by rw [w2]; exact n100, by rw [w3]; exact hl⟩, ?_⟩
    unfold goV
    rw [w0, w1, w2, w3, if_neg hnf, t0, t1, hz, x2, x3, f2, e2, show spX (spT [c, d, e, f, q]) = c from c2, show spY (spT [c, d, e, f, q]) = d from c3]
    rw [Int.toNat_of_nonneg h0, Int.toNat_of_nonneg hf.1]
  · have ht : tieT [a, b, c, d, e, f, q] = freeB := if_neg h0
    obtain ⟨rfl, rfl⟩ := hor.resolve_left h0
    obtain rfl : e = -1 := by omega
    refine ⟨⟨h4, .inl (by rw [w1]; exact ht), by rw [w0]; exact s1, by rw [w2]; exact f1, by rw [w2]; exact n100, by rw [w3]; exact hl⟩, ?_⟩
    unfold goV
    rw [w0, w1, w2, w3, if_pos ht, hz, x2, x3, f2, Int.toNat_of_nonneg hf.1]
end Go.Proofs.YtplnfdgokpgbcaaDoor
