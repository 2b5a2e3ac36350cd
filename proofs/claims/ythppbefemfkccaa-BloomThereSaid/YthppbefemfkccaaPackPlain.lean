/- Numbers as bytes whose first one tells how many: plain numbers, no program is named here. -/
import Derived.Test.YthppbefemfkccaaBase
import Derived.Lib.ItoaNum
namespace Go.Proofs.Ythppbefemfkccaa
open Go.RowKit

/-- How many bytes a number has behind its first one. -/
def bh (n : Nat) : Nat :=
  if n < 128 then 0 else if n < 16384 then 1 else if n < 2097152 then 2 else if n < 268435456 then 3 else if n < 34359738368 then 4
  else if n < 4398046511104 then 5 else if n < 562949953421312 then 6 else if n < 72057594037927936 then 7 else 8
theorem bh_le (n : Nat) : bh n ≤ 8 := by unfold bh; repeat' split
                                         all_goals omega
/-- A number below 2^(7k+7), and not below 2^(7k). -/
theorem bh_spec (n : Nat) : (bh n < 8 → n < 2 ^ (7 * bh n + 7)) ∧ (0 < bh n → 2 ^ (7 * bh n) ≤ n) := by
  unfold bh
  repeat' split
  all_goals (constructor <;> intro _ <;> simp <;> omega)
theorem bh_unique {n k : Nat} (h8 : k ≤ 8) (h1 : k < 8 → n < 2 ^ (7 * k + 7)) (h2 : 0 < k → 2 ^ (7 * k) ≤ n) : bh n = k := by
  have hs : k = 0 ∨ k = 1 ∨ k = 2 ∨ k = 3 ∨ k = 4 ∨ k = 5 ∨ k = 6 ∨ k = 7 ∨ k = 8 := by omega
  rcases hs with rfl | rfl | rfl | rfl | rfl | rfl | rfl | rfl | rfl <;> simp at h1 h2 <;> unfold bh <;> (repeat' split) <;> omega

theorem bitLen_bounds (x : Nat) (hx : x < 18446744073709551616) (h0 : x ≠ 0) : 1 ≤ Lib.bitLen x ∧ 2 ^ (Lib.bitLen x - 1) ≤ x ∧ x < 2 ^ Lib.bitLen x := Lib.bitLenAux_bounds 64 x hx h0
/-- What behind reckons is that number. -/
theorem bh_bitLen (n : Nat) (hn : n < 18446744073709551616) : min 8 ((max 1 (Lib.bitLen n) - 1) / 7) = bh n := by
  by_cases h0 : n = 0
  · subst h0; rfl
  · obtain ⟨h1, h2, h3⟩ := bitLen_bounds n hn h0
    have h64 : Lib.bitLen n ≤ 64 := Lib.bitLen_le n 64 (by omega) hn
    generalize Lib.bitLen n = b at h1 h2 h3 h64 ⊢
    symm
    refine bh_unique (by omega) (fun h => ?_) (fun h => ?_)
    · refine Nat.lt_of_lt_of_le h3 (Nat.pow_le_pow_right (by omega) (by omega))
    · refine Nat.le_trans (Nat.pow_le_pow_right (by omega) ?_) h2
      omega

/-- The last k bytes of a number, the greatest first. -/
def be (k n : Nat) : List UInt8 := (List.range k).map fun i => UInt8.ofNat (n / 2 ^ (8 * (k - 1 - i)) % 256)
@[simp] theorem length_be (k n : Nat) : (be k n).length = k := by simp [be]
theorem be_take (k n i : Nat) (h : i < k) : (be k n).take (i + 1) = (be k n).take i ++ [UInt8.ofNat (n / 2 ^ (8 * (k - 1 - i)) % 256)] := by
  rw [List.take_succ_eq_append_getElem (by simpa using h)]
  simp [be]
/-- A number as bytes. -/
def uintB (n : Nat) : List UInt8 := UInt8.ofNat (256 - 2 ^ (8 - bh n) + n / 2 ^ (8 * bh n)) :: be (bh n) n
@[simp] theorem length_uintB (n : Nat) : (uintB n).length = bh n + 1 := by simp [uintB]
theorem length_uintB_le (n : Nat) : (uintB n).length ≤ 9 := by have := bh_le n; simp; omega
/-- The first byte's part of the number is small. -/
theorem bh_top (n : Nat) : bh n < 8 → n / 2 ^ (8 * bh n) < 2 ^ (7 - bh n) := by
  intro h
  have h1 := (bh_spec n).1 h
  rw [Nat.div_lt_iff_lt_mul (Nat.two_pow_pos _), ← Nat.pow_add]
  refine Nat.lt_of_lt_of_le h1 (Nat.pow_le_pow_right (by omega) (by omega))
theorem bh_top8 (n : Nat) (hn : n < 18446744073709551616) (h : bh n = 8) : n / 2 ^ (8 * bh n) = 0 := by
  rw [h]; exact Nat.div_eq_of_lt (by simpa using hn)
end Go.Proofs.Ythppbefemfkccaa
