/- Numbers as bytes: their order, and that they are taken off as they were: plain numbers. -/
import Derived.Test.YthppbefemfkccaaPackRPlain
import GoSem.Op.String
namespace Go.Proofs.Ythppbefemfkccaa
open Go.RowKit

theorem bh_mono {n m : Nat} (h : n ≤ m) : bh n ≤ bh m := by
  rcases Nat.lt_or_ge (bh m) (bh n) with hlt | hge
  · exfalso
    have h8 := bh_le n
    have h1 := (bh_spec m).1 (by omega)
    have h2 := (bh_spec n).2 (by omega)
    have h3 : (2 : Nat) ^ (7 * bh m + 7) ≤ 2 ^ (7 * bh n) := Nat.pow_le_pow_right (by omega) (by omega)
    omega
  · exact hge
theorem bh_lt {n m : Nat} (h : bh n < bh m) : n < m := by
  rcases Nat.lt_or_ge n m with h1 | h1
  · exact h1
  · have := bh_mono h1
    omega

theorem first_nat (n : Nat) (hn : n < 18446744073709551616) : (UInt8.ofNat (256 - 2 ^ (8 - bh n) + n / 2 ^ (8 * bh n))).toNat = 256 - 2 ^ (8 - bh n) + n / 2 ^ (8 * bh n) ∧
    (bh n < 8 → 256 - 2 ^ (8 - bh n) + n / 2 ^ (8 * bh n) < 256 - 2 ^ (7 - bh n)) ∧ 256 - 2 ^ (8 - bh n) + n / 2 ^ (8 * bh n) < 256 := by
  have h8 := bh_le n
  have key : (bh n < 8 → 256 - 2 ^ (8 - bh n) + n / 2 ^ (8 * bh n) < 256 - 2 ^ (7 - bh n)) ∧ 256 - 2 ^ (8 - bh n) + n / 2 ^ (8 * bh n) < 256 := by
    by_cases hk : bh n < 8
    · have hx := bh_top n hk
      have h1 : (1 : Nat) ≤ 2 ^ (7 - bh n) := Nat.one_le_two_pow
      have h2 : (2 : Nat) ^ (7 - bh n) ≤ 128 := Nat.pow_le_pow_right (by omega) (show 7 - bh n ≤ 7 by omega)
      have h3 : (2 : Nat) ^ (8 - bh n) = 2 * 2 ^ (7 - bh n) := by rw [show 8 - bh n = (7 - bh n) + 1 by omega, Nat.pow_succ, Nat.mul_comm]
      omega
    · have hk' : bh n = 8 := by omega
      rw [bh_top8 n hn hk', hk']
      simp
  refine ⟨?_, key⟩
  rw [UInt8.toNat_ofNat']
  exact Nat.mod_eq_of_lt key.2

theorem lead_pin : ∀ b : Fin 256, ∀ k : Fin 9, 256 - 2 ^ (8 - k.val) ≤ b.val → (k.val < 8 → b.val < 256 - 2 ^ (7 - k.val)) → 8 - Lib.bitLen (255 - b.val) = k.val := by decide +kernel
theorem lead_uint (n : Nat) (hn : n < 18446744073709551616) : lead (UInt8.ofNat (256 - 2 ^ (8 - bh n) + n / 2 ^ (8 * bh n))) = bh n := by
  obtain ⟨h1, h2, h3⟩ := first_nat n hn
  have h8 := bh_le n
  unfold lead
  rw [h1]
  exact lead_pin ⟨_, h3⟩ ⟨bh n, by omega⟩ (Nat.le_add_right _ _) h2
theorem tail_uint (n : Nat) (hn : n < 18446744073709551616) : tail (UInt8.ofNat (256 - 2 ^ (8 - bh n) + n / 2 ^ (8 * bh n))) = n / 2 ^ (8 * bh n) := by
  obtain ⟨h1, _, _⟩ := first_nat n hn
  unfold tail
  rw [lead_uint n hn, h1]
  exact Nat.add_sub_cancel_left _ _

/-- The bytes are the number again. -/
theorem acc_be_take (k n j : Nat) (hj : j ≤ k) : acc (n / 2 ^ (8 * k)) ((be k n).take j) = n / 2 ^ (8 * (k - j)) := by
  induction j with
  | zero => simp [acc]
  | succ j ih =>
    rw [be_take k n j (by omega), acc_snoc, ih (by omega), UInt8.toNat_ofNat', Nat.mod_mod]
    have e : 8 * (k - j) = 8 * (k - (j + 1)) + 8 := by omega
    have e2 : k - 1 - j = k - (j + 1) := by omega
    rw [e, e2, Nat.pow_add, ← Nat.div_div_eq_div_mul]
    show n / 2 ^ (8 * (k - (j + 1))) / 256 * 256 + n / 2 ^ (8 * (k - (j + 1))) % 256 = _
    omega
theorem acc_be (k n : Nat) : acc (n / 2 ^ (8 * k)) (be k n) = n := by
  have := acc_be_take k n k (Nat.le_refl k)
  rw [List.take_of_length_le (by simp)] at this
  simpa using this
/-- What was laid is taken off. -/
theorem numB_uint (n : Nat) (hn : n < 18446744073709551616) (rest : List UInt8) : numB (uintB n ++ rest) = (n, bh n + 1, 0) := by
  unfold uintB
  rw [List.cons_append, numB_cons, lead_uint n hn, tail_uint n hn, if_neg (by simp), List.take_append_of_le_length (by simp), List.take_of_length_le (by simp), acc_be, if_pos rfl]

/-! ## The order -/
theorem less_acc (l1 : List UInt8) : ∀ (l2 : List UInt8), l1.length = l2.length → ∀ a b, (acc a l1 < acc b l2) ↔ (a < b ∨ (a = b ∧ Op.bytesLess l1 l2 = true)) := by
  induction l1 with
  | nil =>
    intro l2 h a b
    obtain rfl : l2 = [] := List.eq_nil_of_length_eq_zero h.symm
    simp [acc, Op.bytesLess]
  | cons c l1 ih =>
    intro l2 h a b
    rcases l2 with _ | ⟨d, l2⟩
    · simp at h
    · have h' : l1.length = l2.length := by simpa using h
      have hc := c.toNat_lt
      have hd := d.toNat_lt
      have hi := ih l2 h' (a * 256 + c.toNat) (b * 256 + d.toNat)
      have e : (acc a (c :: l1) < acc b (d :: l2)) ↔ (acc (a * 256 + c.toNat) l1 < acc (b * 256 + d.toNat) l2) := Iff.rfl
      rw [e, hi]
      have e2 : Op.bytesLess (c :: l1) (d :: l2) = true ↔ (c.toNat < d.toNat ∨ (c.toNat = d.toNat ∧ Op.bytesLess l1 l2 = true)) := by
        simp only [Op.bytesLess, Bool.or_eq_true, decide_eq_true_eq, Bool.and_eq_true, beq_iff_eq, UInt8.lt_iff_toNat_lt, ← UInt8.toNat_inj]
      rw [e2]
      generalize Op.bytesLess l1 l2 = z
      constructor
      · rintro (h | ⟨h, hz⟩)
        · rcases Nat.lt_trichotomy a b with h2 | h2 | h2
          · exact .inl h2
          · exact .inr ⟨h2, .inl (by omega)⟩
          · omega
        · exact .inr ⟨by omega, .inr ⟨by omega, hz⟩⟩
      · rintro (h | ⟨h, h2 | ⟨h2, hz⟩⟩)
        · exact .inl (by omega)
        · exact .inl (by omega)
        · exact .inr ⟨by omega, hz⟩
theorem uint_less (n m : Nat) (hn : n < 18446744073709551616) (hm : m < 18446744073709551616) : Op.bytesLess (uintB n) (uintB m) = decide (n < m) := by
  obtain ⟨n1, n2, n3⟩ := first_nat n hn
  obtain ⟨m1, m2, m3⟩ := first_nat m hm
  have hn8 := bh_le n
  have hm8 := bh_le m
  have e2 : ∀ (c d : UInt8) (l1 l2 : List UInt8), Op.bytesLess (c :: l1) (d :: l2) = true ↔ (c.toNat < d.toNat ∨ (c.toNat = d.toNat ∧ Op.bytesLess l1 l2 = true)) := fun c d l1 l2 => by
    simp only [Op.bytesLess, Bool.or_eq_true, decide_eq_true_eq, Bool.and_eq_true, beq_iff_eq, UInt8.lt_iff_toNat_lt, ← UInt8.toNat_inj]
  have pw : ∀ i j : Nat, i < j → j ≤ 8 → (2 : Nat) ^ (8 - j) ≤ 2 ^ (7 - i) := fun i j h h8 => Nat.pow_le_pow_right (by omega) (by omega)
  rw [Bool.eq_iff_iff, decide_eq_true_iff]
  unfold uintB
  rw [e2, n1, m1]
  obtain ⟨qn, hqn⟩ : ∃ q, q = n / 2 ^ (8 * bh n) := ⟨_, rfl⟩
  obtain ⟨qm, hqm⟩ : ∃ q, q = m / 2 ^ (8 * bh m) := ⟨_, rfl⟩
  rw [← hqn] at n2 n3 ⊢
  rw [← hqm] at m2 m3 ⊢
  rcases Nat.lt_trichotomy (bh n) (bh m) with h | h | h
  · have := pw _ _ h hm8
    have h1 := n2 (by omega)
    have h2 := bh_lt h
    have h3 : (2 : Nat) ^ (7 - bh n) ≤ 128 := Nat.pow_le_pow_right (by omega) (show 7 - bh n ≤ 7 by omega)
    constructor
    · intro _; exact h2
    · intro _; left; omega
  · have := less_acc (be (bh n) n) (be (bh n) m) (by simp) (n / 2 ^ (8 * bh n)) (m / 2 ^ (8 * bh n))
    rw [acc_be, acc_be] at this
    rw [← h] at hqm ⊢
    rw [← hqn, ← hqm] at this
    rw [this]
    generalize Op.bytesLess (be (bh n) n) (be (bh n) m) = z
    constructor
    · rintro (h | ⟨h, hz⟩)
      · exact .inl (by omega)
      · exact .inr ⟨by omega, hz⟩
    · rintro (h | ⟨h, hz⟩)
      · exact .inl (by omega)
      · exact .inr ⟨by omega, hz⟩
  · have := pw _ _ h hn8
    have h1 := m2 (by omega)
    have h2 := bh_lt h
    have h3 : (2 : Nat) ^ (7 - bh m) ≤ 128 := Nat.pow_le_pow_right (by omega) (show 7 - bh m ≤ 7 by omega)
    constructor
    · rintro (h | ⟨h, _⟩) <;> omega
    · intro _; omega
end Go.Proofs.Ythppbefemfkccaa
