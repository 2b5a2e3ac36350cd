/- The document's bytes, filled up, are taken in as the program ends a sum. No program is named here. -/
import Derived.Test.YtomleanoofoejaaDoorKecLink2
import Derived.Test.YtomleanoofoejaaDoorKecOut
namespace Go.Proofs.YtomleanoofoejaaDoor
open Go.RowKit
attribute [local irreducible] turnK

/-- How many noughts come behind n bytes. -/
def padN (n : Nat) : Nat := (136 - n % 136) % 136
/-- The bytes as they are taken in: filled up, the last one marked. -/
def padK (l : List UInt8) (s : UInt8) : List UInt8 := if padN (l.length + 1) = 0 then l ++ [s ^^^ 128] else l ++ s :: (List.replicate (padN (l.length + 1) - 1) 0 ++ [128])
theorem padK_len (l : List UInt8) (s : UInt8) : (padK l s).length = l.length + 1 + padN (l.length + 1) := by
  unfold padK
  split <;> simp <;> omega
theorem padK_full (l : List UInt8) (s : UInt8) : (padK l s).length % 136 = 0 := by
  rw [padK_len]; unfold padN; omega
theorem absK_at {L : List Nat} {a : Nat} (h : a < 136) (b : UInt8) : (absK (L, a) b).2 = (a + 1) % 136 := by
  unfold absK
  split
  · rename_i h1; simp only at h1; simp [h1]
  · rename_i h1; simp only at h1; simp; omega
theorem absAll_at (l : List UInt8) : (absAll beginK l).2 = l.length % 136 := by
  have key : ∀ (l : List UInt8) (s : List Nat × Nat), s.2 < 136 → (absAll s l).2 = (s.2 + l.length) % 136 := by
    intro l
    induction l with
    | nil => intro s h; show s.2 = _; simp; omega
    | cons b t ih =>
      intro s h
      obtain ⟨L, a⟩ := s
      have h1 := absK_at (L := L) h b
      show (absAll (absK (L, a) b) t).2 = _
      rw [ih _ (by rw [h1]; omega), h1]
      simp; omega
  rw [key l beginK (by decide)]
  show (0 + l.length) % 136 = _
  rw [Nat.zero_add]
theorem set_ln_at (X : List Nat) (i : Nat) : X.set i (ln X i) = X := by
  unfold ln
  rw [List.getD_eq_getElem?_getD]
  by_cases h : i < X.length
  · simp [List.getElem?_eq_getElem h]
  · exact List.set_eq_of_length_le (by omega)
theorem xorB_zero (L : List Nat) (a : Nat) : xorB L a 0 = L := by
  unfold xorB
  rw [Nat.zero_mul, Nat.xor_zero, set_ln_at]
theorem absAll_zeros (k : Nat) : ∀ (L : List Nat) (a : Nat), a + k < 136 → absAll (L, a) (List.replicate k 0) = (L, a + k) := by
  induction k with
  | zero => intro L a _; rfl
  | succ k ih =>
    intro L a h
    rw [List.replicate_succ]
    show absAll (absK (L, a) 0) (List.replicate k 0) = _
    have e : absK (L, a) 0 = (L, a + 1) := by
      unfold absK
      rw [if_neg (by simp only; omega)]
      exact Prod.ext (xorB_zero L a) rfl
    rw [e, ih _ _ (by omega), Nat.add_assoc, Nat.add_comm 1 k]
theorem xorB_two {L : List Nat} (hL : L.length = 25) (a b c : Nat) (ha : a < 200) : xorB (xorB L a b) a c = xorB L a (b ^^^ c) := by
  unfold xorB
  rw [ln_set, if_pos ⟨rfl, by omega⟩, List.set_set, Nat.xor_assoc]
  congr 2
  rw [← Nat.shiftLeft_eq, ← Nat.shiftLeft_eq, ← Nat.shiftLeft_eq, Nat.shiftLeft_xor_distrib]
theorem padK_end (l : List UInt8) (s : UInt8) : (absAll beginK (padK l s)).1 = endK (absAll beginK l) s.toNat := by
  have hok := absAll_ok beginK_ok l
  have hat := absAll_at l
  unfold padK endK
  obtain ⟨⟨L, a⟩, hM⟩ : ∃ M, M = absAll beginK l := ⟨_, rfl⟩
  rw [← hM] at hok hat
  simp only at hok hat
  split
  · rename_i h0
    have ha : a = 135 := by unfold padN at h0; omega
    rw [absAll_append, ← hM]
    show (absK (L, a) (s ^^^ 128)).1 = turnK (xorB (xorB L a s.toNat) 135 128)
    subst ha
    unfold absK
    rw [if_pos rfl, xorB_two hok.1.1 135 _ _ (by decide)]
    simp
  · rename_i h0
    have ha : a + 1 + (padN (l.length + 1) - 1) = 135 := by unfold padN at h0 ⊢; omega
    rw [show s :: (List.replicate (padN (l.length + 1) - 1) 0 ++ [128]) = [s] ++ (List.replicate (padN (l.length + 1) - 1) 0 ++ [128]) from rfl, absAll_append, absAll_append, absAll_append, ← hM]
    have e1 : absAll (L, a) [s] = (xorB L a s.toNat, a + 1) := by
      show absK (L, a) s = _
      unfold absK
      rw [if_neg (by simp only; omega)]
    rw [e1, absAll_zeros _ _ _ (by omega), ha]
    show (absK (xorB L a s.toNat, 135) 128).1 = _
    unfold absK
    rw [if_pos rfl]
    simp
/-- Where a byte's lane is, in the document's order. -/
def lane5 (i : Nat) : Nat := i / 8 % 5 * 5 + i / 8 / 5
theorem tr_set {L : List Nat} (h : L.length = 25) (i x : Nat) (hi : i < 25) : tr (L.set i x) = (tr L).set (i % 5 * 5 + i / 5) x := by
  obtain ⟨l0, l1, l2, l3, l4, l5, l6, l7, l8, l9, l10, l11, l12, l13, l14, l15, l16, l17, l18, l19, l20, l21, l22, l23, l24, rfl⟩ := lanes_of h
  have : i = 0 ∨ i = 1 ∨ i = 2 ∨ i = 3 ∨ i = 4 ∨ i = 5 ∨ i = 6 ∨ i = 7 ∨ i = 8 ∨ i = 9 ∨ i = 10 ∨ i = 11 ∨ i = 12 ∨ i = 13 ∨ i = 14 ∨ i = 15 ∨ i = 16 ∨ i = 17 ∨ i = 18 ∨ i = 19 ∨ i = 20 ∨ i = 21 ∨ i = 22 ∨ i = 23 ∨ i = 24 := by omega
  rcases this with rfl | rfl | rfl | rfl | rfl | rfl | rfl | rfl | rfl | rfl | rfl | rfl | rfl | rfl | rfl | rfl | rfl | rfl | rfl | rfl | rfl | rfl | rfl | rfl | rfl <;> rfl
theorem tr_ln {L : List Nat} (i : Nat) (hi : i < 25) : ln (tr L) (i % 5 * 5 + i / 5) = ln L i := by
  unfold tr
  have h : i % 5 * 5 + i / 5 < 25 := by omega
  unfold ln
  rw [List.getD_eq_getElem?_getD, List.getElem?_map, List.getElem?_range h]
  simp only [Option.map_some, Option.getD_some]
  rw [show 5 * ((i % 5 * 5 + i / 5) % 5) + (i % 5 * 5 + i / 5) / 5 = i by omega]
theorem Wf.tr {L : List Nat} (h : Wf 25 L) : Wf 25 (tr L) := by
  refine ⟨tr_len L, fun i => ?_⟩
  unfold Go.Proofs.YtomleanoofoejaaDoor.tr
  unfold ln
  rw [List.getD_eq_getElem?_getD, List.getElem?_map]
  by_cases hi : i < 25
  · rw [List.getElem?_range hi]
    exact h.2 _
  · rw [List.getElem?_eq_none (by simpa using hi)]
    simp
end Go.Proofs.YtomleanoofoejaaDoor
