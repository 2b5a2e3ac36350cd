/- The number that bytes begin with: plain numbers, no program is named here. -/
import Derived.Test.YthppbefemfkccaaPackPlain
import Derived.Lib.Bits
namespace Go.Proofs.Ythppbefemfkccaa
open Go.RowKit

/-- How many bits 1 a byte begins with. -/
def lead (b : UInt8) : Nat := 8 - Lib.bitLen (255 - b.toNat)
theorem lead_fin : ∀ b : Fin 256, (8 - Lib.bitLen (255 - b.val)) ≤ 8 ∧ Lib.bitLen (255 - b.val) ≤ 8 ∧ 256 - 2 ^ (8 - (8 - Lib.bitLen (255 - b.val))) ≤ b.val ∧
    ((8 - Lib.bitLen (255 - b.val)) < 8 → b.val - (256 - 2 ^ (8 - (8 - Lib.bitLen (255 - b.val)))) < 2 ^ (7 - (8 - Lib.bitLen (255 - b.val)))) ∧ ((8 - Lib.bitLen (255 - b.val)) = 8 → b.val = 255) ∧
    bits .andNot .u8 (b.val : Int) ((256 - 2 ^ (8 - (8 - Lib.bitLen (255 - b.val))) : Nat) : Int) = ((b.val - (256 - 2 ^ (8 - (8 - Lib.bitLen (255 - b.val)))) : Nat) : Int) := by decide +kernel
theorem lead_le (b : UInt8) : lead b ≤ 8 := by unfold lead; omega
theorem lead_bit (b : UInt8) : (8 - (Lib.bitLen (255 - b.toNat) : Int)) = (lead b : Int) := by
  have := (lead_fin ⟨b.toNat, b.toNat_lt⟩).2.1
  unfold lead
  simp only at this
  omega
theorem lead_head (b : UInt8) : 256 - 2 ^ (8 - lead b) ≤ b.toNat := (lead_fin ⟨b.toNat, b.toNat_lt⟩).2.2.1
theorem lead_tail (b : UInt8) (h : lead b < 8) : b.toNat - (256 - 2 ^ (8 - lead b)) < 2 ^ (7 - lead b) := (lead_fin ⟨b.toNat, b.toNat_lt⟩).2.2.2.1 h
theorem lead_all (b : UInt8) (h : lead b = 8) : b.toNat = 255 := (lead_fin ⟨b.toNat, b.toNat_lt⟩).2.2.2.2.1 h
theorem lead_andNot (b : UInt8) : bits .andNot .u8 (b.toNat : Int) ((256 - 2 ^ (8 - lead b) : Nat) : Int) = ((b.toNat - (256 - 2 ^ (8 - lead b)) : Nat) : Int) := (lead_fin ⟨b.toNat, b.toNat_lt⟩).2.2.2.2.2
theorem not_byte (b : UInt8) : bits .xor .u8 IntKind.u8.max (b.toNat : Int) = ((255 - b.toNat : Nat) : Int) := by
  have : ∀ b : Fin 256, bits .xor .u8 IntKind.u8.max (b.val : Int) = ((255 - b.val : Nat) : Int) := by decide +kernel
  exact this ⟨b.toNat, b.toNat_lt⟩

/-- A number, and more bytes of it. -/
def acc (n : Nat) (l : List UInt8) : Nat := l.foldl (fun n c => n * 256 + c.toNat) n
theorem acc_snoc (n : Nat) (l : List UInt8) (c : UInt8) : acc n (l ++ [c]) = acc n l * 256 + c.toNat := by simp [acc]
theorem acc_lt (n : Nat) (l : List UInt8) (B : Nat) (h : n < B) : acc n l < B * 256 ^ l.length := by
  induction l generalizing n B with
  | nil => simpa [acc] using h
  | cons c l ih =>
    have hc := c.toNat_lt
    have := ih (n * 256 + c.toNat) (B * 256) (by omega)
    show acc (n * 256 + c.toNat) l < _
    rw [List.length_cons, Nat.pow_succ, Nat.mul_comm (256 ^ l.length), ← Nat.mul_assoc]
    exact this
/-- What a first byte has of its number. -/
def tail (b : UInt8) : Nat := b.toNat - (256 - 2 ^ (8 - lead b))
theorem tail_lt (b : UInt8) : tail b * 256 ^ lead b < 2 ^ 64 ∧ (∀ j, j < lead b → (tail b + 1) * 256 ^ j ≤ 2 ^ 56) := by
  have h8 := lead_le b
  have hj : ∀ j, (256 : Nat) ^ j = 2 ^ (8 * j) := fun j => by rw [Nat.pow_mul]
  by_cases h : lead b < 8
  · have ht := lead_tail b h
    unfold tail
    constructor
    · have := Nat.mul_lt_mul_of_pos_right ht (show 0 < 256 ^ lead b from Nat.pow_pos (by omega))
      refine Nat.lt_of_lt_of_le this ?_
      rw [hj, ← Nat.pow_add]
      exact Nat.pow_le_pow_right (by omega) (by omega)
    · intro j hjl
      refine Nat.le_trans (Nat.mul_le_mul_right _ ht) ?_
      rw [hj, ← Nat.pow_add]
      exact Nat.pow_le_pow_right (by omega) (by omega)
  · have h' : lead b = 8 := by omega
    have hb := lead_all b h'
    unfold tail
    rw [hb, h']
    refine ⟨by decide, fun j hjl => ?_⟩
    rw [hj]
    simpa using Nat.pow_le_pow_right (show 0 < 2 by omega) (show 8 * j ≤ 56 by omega)
/-- Ahead of each byte but the last one the number is small. -/
theorem acc_small (b : UInt8) (l : List UInt8) (j : Nat) (hj : j < lead b) : acc (tail b) (l.take j) < 2 ^ 56 := by
  have h1 := acc_lt (tail b) (l.take j) (tail b + 1) (by omega)
  refine Nat.lt_of_lt_of_le h1 (Nat.le_trans (Nat.mul_le_mul_left _ (Nat.pow_le_pow_right (by omega) (show (l.take j).length ≤ j by simp; omega))) ((tail_lt b).2 j hj))
theorem acc_all (b : UInt8) (l : List UInt8) (hl : lead b ≤ l.length) : acc (tail b) (l.take (lead b)) < 2 ^ 64 := by
  rcases Nat.eq_zero_or_pos (lead b) with h | h
  · rw [h, List.take_zero]
    show tail b < _
    have := b.toNat_lt
    unfold tail; omega
  · have hs := acc_small b l (lead b - 1) (by omega)
    have e : l.take (lead b) = l.take (lead b - 1) ++ [l[lead b - 1]] := by
      have := List.take_succ_eq_append_getElem (l := l) (i := lead b - 1) (by omega)
      rwa [show lead b - 1 + 1 = lead b by omega] at this
    rw [e, acc_snoc]
    have := (l[lead b - 1]).toNat_lt
    omega

/-- The number that bytes begin with, how many bytes it has, an error. -/
def numB : List UInt8 → Nat × Nat × Int
  | [] => (0, 0, 12)
  | b :: t => if t.length < lead b then (0, 0, 12) else if bh (acc (tail b) (t.take (lead b))) = lead b then (acc (tail b) (t.take (lead b)), lead b + 1, 0) else (0, 0, 3)
theorem numB_cons (b : UInt8) (t : List UInt8) : numB (b :: t) = if t.length < lead b then (0, 0, 12) else if bh (acc (tail b) (t.take (lead b))) = lead b then (acc (tail b) (t.take (lead b)), lead b + 1, 0) else (0, 0, 3) := rfl
theorem numB_lt (l : List UInt8) : (numB l).1 < 2 ^ 64 ∧ (numB l).2.1 ≤ 9 ∧ (numB l).2.1 ≤ l.length ∧ ((numB l).2.2 = 0 ∨ (numB l).2.2 = 12 ∨ (numB l).2.2 = 3) := by
  cases l with
  | nil => simp [numB]
  | cons b t =>
    have := lead_le b
    rw [numB_cons]
    split
    · simp
    · split
      · refine ⟨acc_all b t (by omega), by show lead b + 1 ≤ 9; omega, by simp; omega, .inl rfl⟩
      · simp
end Go.Proofs.Ythppbefemfkccaa
