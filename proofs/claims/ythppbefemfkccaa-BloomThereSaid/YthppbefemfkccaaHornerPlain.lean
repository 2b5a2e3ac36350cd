/- Horner's sums in plain numbers: no program is named here. -/
import Derived.Test.YthppbefemfkccaaBase
namespace Go.Proofs.Ythppbefemfkccaa
open Go.RowKit

/-- The sum of bytes behind a sum. -/
def hmore (n : Int) (l : List UInt8) : Int := l.foldl (fun n c => (n * 257 + (c.toNat : Int)) % 2147483647) n
theorem hmore_nil (n : Int) : hmore n [] = n := rfl
theorem hmore_append (n : Int) (a b : List UInt8) : hmore n (a ++ b) = hmore (hmore n a) b := by simp [hmore]
theorem hmore_snoc (n : Int) (l : List UInt8) (k : Nat) (h : k < l.length) : hmore n (l.take (k+1)) = (hmore n (l.take k) * 257 + (l[k].toNat : Int)) % 2147483647 := by
  unfold hmore; rw [List.take_succ_eq_append_getElem h, List.foldl_append]; rfl
theorem hmore_snoc' (n : Int) (l : List UInt8) (k : Nat) (h : k < l.length) : hmore n (l.take (k+1)) = (256 * hmore n (l.take k) + hmore n (l.take k) + (l[k].toNat : Int)) % 2147483647 := by
  rw [hmore_snoc n l k h]; congr 1; omega
theorem hmore_range (n : Int) (l : List UInt8) (h : 0 ≤ n ∧ n < 2147483647) : 0 ≤ hmore n l ∧ hmore n l < 2147483647 := by
  induction l generalizing n with
  | nil => simpa [hmore] using h
  | cons c l ih =>
    have := ih ((n * 257 + (c.toNat : Int)) % 2147483647) (by omega)
    simpa [hmore] using this
theorem byte_lt (c : UInt8) : (c.toNat : Int) < 256 := by have := c.toNat_lt; omega

/-! ## Powers of the base, and two sums joined -/
def hpw (n : Nat) : Nat := 257 ^ n % 2147483647
theorem hpw_lt (n : Nat) : hpw n < 2147483647 := Nat.mod_lt _ (by omega)
theorem pow_split (b k : Nat) : b ^ k = b ^ (k % 2) * (b * b) ^ (k / 2) := by
  conv => lhs; rw [← Nat.mod_add_div k 2]
  rw [Nat.pow_add, Nat.pow_mul, Nat.pow_two]
theorem pow_even (o b k P : Nat) (h : k % 2 = 0) : (o * (b * b % P) ^ (k / 2)) % P = (o * b ^ k) % P := by
  rw [pow_split b k, h, Nat.pow_zero, Nat.one_mul, Nat.mul_mod, ← Nat.pow_mod, ← Nat.mul_mod]
theorem pow_odd (o b k P : Nat) (h : k % 2 = 1) : (o * b % P * (b * b % P) ^ (k / 2)) % P = (o * b ^ k) % P := by
  rw [pow_split b k, h, Nat.pow_one, Nat.mul_mod, ← Nat.pow_mod, Nat.mod_mod, ← Nat.mul_mod, Nat.mul_assoc]
/-- The sum of two texts, one behind the other, by their sums. -/
def hjoin (a b : Int) (n : Nat) : Int := ((a + 2147483646) % 2147483647 * (hpw n : Int) + b) % 2147483647
theorem hjoin_range (a b : Int) (n : Nat) : 0 ≤ hjoin a b n ∧ hjoin a b n < 2147483647 := by unfold hjoin; omega
theorem hpw_add (i k : Nat) : hpw (i + k) = hpw i * hpw k % 2147483647 := by
  unfold hpw
  rw [Nat.pow_add, Nat.mul_mod]
theorem hjoin_one (a : Int) (n : Nat) : hjoin 1 a n = a % 2147483647 := by
  unfold hjoin
  simp
/-- Laid behind a text of no sum, in two steps or in one. -/
theorem hjoin_twice (a : Int) (i k : Nat) : hjoin (hjoin a 1 i) 1 k = hjoin a 1 (i + k) := by
  unfold hjoin
  rw [hpw_add]
  simp only [Int.natCast_emod, Int.natCast_mul, Int.cast_ofNat_Int]
  generalize (hpw i : Int) = p
  generalize (hpw k : Int) = q
  generalize (a + 2147483646) % 2147483647 = x
  have e1 : ((x * p + 1) % 2147483647 + 2147483646) % 2147483647 = (x * p) % 2147483647 := by omega
  rw [e1]
  have e2 : (x * p % 2147483647 * q) % 2147483647 = (x * (p * q % 2147483647)) % 2147483647 := by
    rw [Int.mul_emod, Int.emod_emod, ← Int.mul_emod, Int.mul_emod x, Int.emod_emod, ← Int.mul_emod, Int.mul_assoc]
  omega

theorem hpw_succ (k : Nat) : hpw (k + 1) = hpw k * 257 % 2147483647 := by
  unfold hpw
  rw [Nat.pow_succ, Nat.mul_mod]
/-- The sum of bytes behind a sum, by their own sum. -/
theorem hjoin_more (s : Int) (hs : 0 ≤ s ∧ s < 2147483647) (b : List UInt8) : hjoin s (hmore 1 b) b.length = hmore s b := by
  have key : ∀ k, k ≤ b.length → hjoin s (hmore 1 (b.take k)) k = hmore s (b.take k) := by
    intro k
    induction k with
    | zero => intro _; simp only [List.take_zero, hmore_nil]; unfold hjoin; simp [hpw]; omega
    | succ k ih =>
      intro hk
      have h := ih (by omega)
      rw [hmore_snoc _ _ k (by omega), hmore_snoc _ _ k (by omega)]
      have r1 := hmore_range 1 (b.take k) (by omega)
      have r2 := hmore_range s (b.take k) hs
      have hb := byte_lt b[k]
      unfold hjoin at h ⊢
      rw [hpw_succ]
      simp only [Int.natCast_emod, Int.natCast_mul, Int.cast_ofNat_Int]
      generalize (hpw k : Int) = p at h ⊢
      generalize (s + 2147483646) % 2147483647 = u at h ⊢
      generalize hmore 1 (b.take k) = m1 at h r1 ⊢
      generalize hmore s (b.take k) = ms at h r2 ⊢
      have e : (u * (p * 257 % 2147483647)) % 2147483647 = (u * p * 257) % 2147483647 := by
        rw [Int.mul_emod, Int.emod_emod, ← Int.mul_emod, Int.mul_assoc]
      generalize u * (p * 257 % 2147483647) = y at e ⊢
      generalize u * p = x at h e
      omega
  have := key b.length (Nat.le_refl _)
  rwa [List.take_length] at this
end Go.Proofs.Ythppbefemfkccaa
