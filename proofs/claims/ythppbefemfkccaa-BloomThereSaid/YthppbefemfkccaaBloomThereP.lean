/- A filter's bytes read back, and how many bits are set: plain lists. -/
import Derived.Test.YthppbefemfkccaaBloomDec
import Derived.Test.YthppbefemfkccaaBloomOrderC
import Derived.Test.YthppbefemfkccaaPackOrd
namespace Go.Proofs.Ythppbefemfkccaa
open Go.RowKit
attribute [local irreducible] bitsK

theorem bnd_laid (n : Nat) (hn : n < 18446744073709551616) (most : Nat) (above left : Int) (rest : List UInt8) (h : n ≤ most) (hl : left ≠ 0 → n ≤ rest.length) : bnd most above left (uintB n ++ rest) = (rest, 0, n) := by
  unfold bnd
  rw [numB_uint n hn rest]
  simp only [ne_eq, not_true_eq_false, if_false]
  have hlen : (uintB n).length = bh n + 1 := by simp
  rw [if_neg (by omega), if_neg (by rintro ⟨h1, h2⟩; have := hl h2; rw [List.length_append, hlen] at h1; omega)]
  rw [← hlen, List.drop_left]
/-- A filter's bytes are the filter's. -/
theorem dec_enc (n k : Nat) (bs : List UInt8) (hn : 1 ≤ n ∧ n ≤ 1048576) (hk : 1 ≤ k ∧ k ≤ 16) (hb : bs.length = (n + 7) / 8) (hs : n % 8 = 0 ∨ spareK n bs = 0) :
    decOk (encK n k bs) ∧ nK (encK n k bs) = n ∧ kK (encK n k bs) = k ∧ xK (encK n k bs) = bs := by
  have e1 : decN (encK n k bs) = (uintB k ++ lenB bs, 0, n) := by
    unfold decN encK uintR
    rw [if_neg (by simp), List.append_assoc, bnd_laid n (by omega) _ _ _ _ hn.2 (by simp)]
  have e2 : decA (encK n k bs) = (lenB bs, 0, k) := by
    unfold decA
    rw [e1]
    unfold uintR
    rw [if_neg (by simp), bnd_laid k (by omega) _ _ _ _ hk.2 (by simp)]
  have e3 : decX (encK n k bs) = ([], 0, bs) := by
    unfold decX
    rw [e2]
    have hlen : bs.length ≤ (encK n k bs).length := by unfold encK lenB; simp only [List.length_append]; omega
    unfold bytesR
    rw [if_neg (by simp), if_neg (by omega), Int.toNat_natCast]
    unfold lenB
    rw [bnd_laid bs.length (by omega) _ _ _ _ hlen (by simp)]
    simp
  have e4 : nK (encK n k bs) = n := by unfold nK; rw [e1]
  have e5 : kK (encK n k bs) = k := by unfold kK; rw [e2]
  have e6 : xK (encK n k bs) = bs := by unfold xK; rw [e3]
  refine ⟨⟨?_, ?_, ?_, ?_⟩, e4, e5, e6⟩
  · unfold decE; rw [e3]; show doneR [] 0 = 0; decide
  · rw [e4, e5]; unfold FitB; omega
  · rw [e4, e6]; exact hb
  · rw [e4, e6]; exact hs
/-- No bit behind the last one is set. -/
theorem spare_all (n m : Nat) (l : List Nat) (hm : m = (n + 7) / 8) (hn : 1 ≤ n) (hl : ∀ j ∈ l, j < n) : n % 8 = 0 ∨ spareK n (orAll (List.replicate m 0) l) = 0 := by
  by_cases h0 : n % 8 = 0
  · exact .inl h0
  · refine .inr ?_
    unfold spareK
    rw [orAll_len, List.length_replicate]
    refine Nat.eq_of_testBit_eq fun s => ?_
    rw [Nat.zero_testBit, Nat.testBit_div_two_pow]
    by_cases hs : s + n % 8 < 8
    · have h1 := hasBit_all l (List.replicate m 0) (8 * (m - 1) + (s + n % 8)) (fun j hj => by have := hl j hj; simp; omega)
      have h2 : ¬ (8 * (m - 1) + (s + n % 8)) ∈ l := fun h => by have := hl _ h; omega
      have h3 : hasBit (List.replicate m 0) (8 * (m - 1) + (s + n % 8)) = false := by
        unfold hasBit
        rw [List.getD_eq_getElem?_getD, List.getElem?_replicate]
        split <;> simp
      rw [h3] at h1
      simp only [h2, decide_false, Bool.or_false] at h1
      unfold hasBit at h1
      rw [show (8 * (m - 1) + (s + n % 8)) / 8 = m - 1 by omega, show (8 * (m - 1) + (s + n % 8)) % 8 = s + n % 8 by omega] at h1
      exact h1
    · have hp : 2 ^ 8 ≤ 2 ^ (s + n % 8) := Nat.pow_le_pow_right (by decide) (by omega)
      have hx := ((orAll (List.replicate m 0) l).getD (m - 1) 0).toNat_lt
      exact Nat.testBit_lt_two_pow (by omega)
theorem ones_or : ∀ b : Fin 256, ∀ r : Fin 8, Lib.onesCount b.val ≤ Lib.onesCount (b.val ||| 2 ^ r.val) ∧ Lib.onesCount (b.val ||| 2 ^ r.val) ≤ Lib.onesCount b.val + 1 := by decide +kernel
theorem ones_bit (b : UInt8) (r : Nat) (hr : r < 8) : Lib.onesCount b.toNat ≤ Lib.onesCount (b ||| UInt8.ofNat (2 ^ r)).toNat ∧ Lib.onesCount (b ||| UInt8.ofNat (2 ^ r)).toNat ≤ Lib.onesCount b.toNat + 1 := by
  have h2 : 2 ^ r % 2 ^ 8 = 2 ^ r := Nat.mod_eq_of_lt (Nat.pow_lt_pow_right (by decide) hr)
  rw [UInt8.toNat_or, UInt8.toNat_ofNat', h2]
  exact ones_or ⟨b.toNat, b.toNat_lt⟩ ⟨r, hr⟩
theorem fullK_set (bs : List UInt8) (v : UInt8) : ∀ (i : Nat) (h : i < bs.length), fullK (bs.set i v) + Lib.onesCount bs[i].toNat = fullK bs + Lib.onesCount v.toNat := by
  induction bs with
  | nil => intro i h; simp at h
  | cons b l ih =>
    intro i h
    cases i with
    | zero => simp only [fullK, List.set_cons_zero, List.map_cons, List.sum_cons, List.getElem_cons_zero]; omega
    | succ i =>
      have h1 := ih i (by simpa using h)
      simp only [fullK, List.set_cons_succ, List.map_cons, List.sum_cons, List.getElem_cons_succ] at h1 ⊢
      omega
theorem fullK_bit (bs : List UInt8) (j : Nat) : fullK bs ≤ fullK (orBit bs j) ∧ fullK (orBit bs j) ≤ fullK bs + 1 := by
  unfold orBit
  by_cases h : j / 8 < bs.length
  · rw [List.getD_eq_getElem?_getD, List.getElem?_eq_getElem h, Option.getD_some]
    have h1 := fullK_set bs (bs[j / 8] ||| UInt8.ofNat (2 ^ (j % 8))) (j / 8) h
    have h2 := ones_bit bs[j / 8] (j % 8) (Nat.mod_lt _ (by decide))
    omega
  · rw [List.set_eq_of_length_le (by omega)]; omega
/-- No key sets more bits than it asks for. -/
theorem fullK_all (l : List Nat) : ∀ bs : List UInt8, fullK bs ≤ fullK (orAll bs l) ∧ fullK (orAll bs l) ≤ fullK bs + l.length := by
  induction l with
  | nil => intro bs; exact ⟨Nat.le_refl _, Nat.le_refl _⟩
  | cons j l ih =>
    intro bs
    have h1 := fullK_bit bs j
    have h2 := ih (orBit bs j)
    have e : orAll bs (j :: l) = orAll (orBit bs j) l := rfl
    rw [e, List.length_cons]
    omega
/-- What was added may be there. -/
theorem may_there (bs : List UInt8) (B : Nat → List Nat) (n t : Nat) (ht : t < n) (h : ∀ t j, j ∈ B t → j / 8 < bs.length) : mayK (orAll bs (LF B n)) (B t) = true := by
  have hm : ∀ j ∈ LF B n, j / 8 < bs.length := by
    intro j hj
    unfold LF at hj
    rw [List.mem_flatMap] at hj
    obtain ⟨t, _, ht⟩ := hj
    exact h t j ht
  unfold mayK
  rw [List.all_eq_true]
  intro j hj
  rw [hasBit_all _ _ _ hm]
  have : j ∈ LF B n := by unfold LF; rw [List.mem_flatMap]; exact ⟨t, by simpa using ht, hj⟩
  simp [this]
end Go.Proofs.Ythppbefemfkccaa
