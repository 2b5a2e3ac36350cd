/- Numbers as bytes: their order, and that they are taken off as they were: plain numbers. What is taken off as a number was laid as one: plain lists. Horner's sums in plain numbers: no program is named here. The filter's bits, as numbers and bytes. No program is named here. What the program's and the document's Horner sums compute, called with any bytes: contracts. Arrays of bytes by value: when they are equal, and as the model compares them. No program is named here. A region that draws its order, walked in the order of its text: what only reads is taken first; a call comes up alone, and behind it more may be known of the world. No program is named here. -/
import Derived.Test.YthppbefemfkccaaDoorQBloomReads1
import GoSem.Op.String
import Derived.Lib.BitFns
import Derived.Test.YthppbefemfkccaaDoorProg
import Derived.ChangeKeysEq
import Derived.Deep.RegionHeld3
namespace Go.Proofs.YthppbefemfkccaaDoor
open Go.RowKit

theorem bh_mono {n m : Nat} (h : n ≤ m) : bh n ≤ bh m := by
  rcases Nat.lt_or_ge (bh m) (bh n) with hlt | hge
  · exfalso
    have h8 := bh_le n
    have h1 := (bh_spec m).1 (by omega)
    have h2 := (bh_spec n).2 (by omega)
    have h3 : (2 : Nat) ^ (7 * bh m + 7) ≤ 2 ^ (7 * bh n) := Nat.pow_le_pow_right (by omega) (by omega)
    omega
  · exact hge
theorem bh_lt {n m : Nat} (h : bh n < bh m) : n < m := by
  rcases Nat.lt_or_ge n m with h1 | h1
  · exact h1
  · have := bh_mono h1
    omega

theorem first_nat (n : Nat) (hn : n < 18446744073709551616) : (UInt8.ofNat (256 - 2 ^ (8 - bh n) + n / 2 ^ (8 * bh n))).toNat = 256 - 2 ^ (8 - bh n) + n / 2 ^ (8 * bh n) ∧
    (bh n < 8 → 256 - 2 ^ (8 - bh n) + n / 2 ^ (8 * bh n) < 256 - 2 ^ (7 - bh n)) ∧ 256 - 2 ^ (8 - bh n) + n / 2 ^ (8 * bh n) < 256 := by
  have h8 := bh_le n
  have key : (bh n < 8 → 256 - 2 ^ (8 - bh n) + n / 2 ^ (8 * bh n) < 256 - 2 ^ (7 - bh n)) ∧ 256 - 2 ^ (8 - bh n) + n / 2 ^ (8 * bh n) < 256 := by
    by_cases hk : bh n < 8
    · have hx := bh_top n hk
      have h1 : (1 : Nat) ≤ 2 ^ (7 - bh n) := Nat.one_le_two_pow
      have h2 : (2 : Nat) ^ (7 - bh n) ≤ 128 := Nat.pow_le_pow_right (by omega) (show 7 - bh n ≤ 7 by omega)
      have h3 : (2 : Nat) ^ (8 - bh n) = 2 * 2 ^ (7 - bh n) := by rw [show 8 - bh n = (7 - bh n) + 1 by omega, Nat.pow_succ, Nat.mul_comm]
      omega
    · have hk' : bh n = 8 := by omega
      rw [bh_top8 n hn hk', hk']
      simp
  refine ⟨?_, key⟩
  rw [UInt8.toNat_ofNat']
  exact Nat.mod_eq_of_lt key.2

theorem lead_pin : ∀ b : Fin 256, ∀ k : Fin 9, 256 - 2 ^ (8 - k.val) ≤ b.val → (k.val < 8 → b.val < 256 - 2 ^ (7 - k.val)) → 8 - Lib.bitLen (255 - b.val) = k.val := by decide +kernel
theorem lead_uint (n : Nat) (hn : n < 18446744073709551616) : lead (UInt8.ofNat (256 - 2 ^ (8 - bh n) + n / 2 ^ (8 * bh n))) = bh n := by
  obtain ⟨h1, h2, h3⟩ := first_nat n hn
  have h8 := bh_le n
  unfold lead
  rw [h1]
  exact lead_pin ⟨_, h3⟩ ⟨bh n, by omega⟩ (Nat.le_add_right _ _) h2
theorem tail_uint (n : Nat) (hn : n < 18446744073709551616) : tail (UInt8.ofNat (256 - 2 ^ (8 - bh n) + n / 2 ^ (8 * bh n))) = n / 2 ^ (8 * bh n) := by
  obtain ⟨h1, _, _⟩ := first_nat n hn
  unfold tail
  rw [lead_uint n hn, h1]
  exact Nat.add_sub_cancel_left _ _

/-- The bytes are the number again. -/
theorem acc_be_take (k n j : Nat) (hj : j ≤ k) : acc (n / 2 ^ (8 * k)) ((be k n).take j) = n / 2 ^ (8 * (k - j)) := by
  induction j with
  | zero => simp [acc]
  | succ j ih =>
    rw [be_take k n j (by omega), acc_snoc, ih (by omega), UInt8.toNat_ofNat', Nat.mod_mod]
    have e : 8 * (k - j) = 8 * (k - (j + 1)) + 8 := by omega
    have e2 : k - 1 - j = k - (j + 1) := by omega
    rw [e, e2, Nat.pow_add, ← Nat.div_div_eq_div_mul]
    show n / 2 ^ (8 * (k - (j + 1))) / 256 * 256 + n / 2 ^ (8 * (k - (j + 1))) % 256 = _
    omega
theorem acc_be (k n : Nat) : acc (n / 2 ^ (8 * k)) (be k n) = n := by
  have := acc_be_take k n k (Nat.le_refl k)
  rw [List.take_of_length_le (by simp)] at this
  simpa using this
/-- What was laid is taken off. -/
theorem numB_uint (n : Nat) (hn : n < 18446744073709551616) (rest : List UInt8) : numB (uintB n ++ rest) = (n, bh n + 1, 0) := by
  unfold uintB
  rw [List.cons_append, numB_cons, lead_uint n hn, tail_uint n hn, if_neg (by simp), List.take_append_of_le_length (by simp), List.take_of_length_le (by simp), acc_be, if_pos rfl]

/-! ## The order -/
theorem less_acc (l1 : List UInt8) : ∀ (l2 : List UInt8), l1.length = l2.length → ∀ a b, (acc a l1 < acc b l2) ↔ (a < b ∨ (a = b ∧ Op.bytesLess l1 l2 = true)) := by
  induction l1 with
  | nil =>
    intro l2 h a b
    obtain rfl : l2 = [] := List.eq_nil_of_length_eq_zero h.symm
    simp [acc, Op.bytesLess]
  | cons c l1 ih =>
    intro l2 h a b
    rcases l2 with _ | ⟨d, l2⟩
    · simp at h
    · have h' : l1.length = l2.length := by simpa using h
      have hc := c.toNat_lt
      have hd := d.toNat_lt
      have hi := ih l2 h' (a * 256 + c.toNat) (b * 256 + d.toNat)
      have e : (acc a (c :: l1) < acc b (d :: l2)) ↔ (acc (a * 256 + c.toNat) l1 < acc (b * 256 + d.toNat) l2) := Iff.rfl
      rw [e, hi]
      have e2 : Op.bytesLess (c :: l1) (d :: l2) = true ↔ (c.toNat < d.toNat ∨ (c.toNat = d.toNat ∧ Op.bytesLess l1 l2 = true)) := by
        simp only [Op.bytesLess, Bool.or_eq_true, decide_eq_true_eq, Bool.and_eq_true, beq_iff_eq, UInt8.lt_iff_toNat_lt, ← UInt8.toNat_inj]
      rw [e2]
      generalize Op.bytesLess l1 l2 = z
      constructor
      · rintro (h | ⟨h, hz⟩)
        · rcases Nat.lt_trichotomy a b with h2 | h2 | h2
          · exact .inl h2
          · exact .inr ⟨h2, .inl (by omega)⟩
          · omega
        · exact .inr ⟨by omega, .inr ⟨by omega, hz⟩⟩
      · rintro (h | ⟨h, h2 | ⟨h2, hz⟩⟩)
        · exact .inl (by omega)
        · exact .inl (by omega)
        · exact .inr ⟨by omega, hz⟩
theorem uint_less (n m : Nat) (hn : n < 18446744073709551616) (hm : m < 18446744073709551616) : Op.bytesLess (uintB n) (uintB m) = decide (n < m) := by
  obtain ⟨n1, n2, n3⟩ := first_nat n hn
  obtain ⟨m1, m2, m3⟩ := first_nat m hm
  have hn8 := bh_le n
  have hm8 := bh_le m
  have e2 : ∀ (c d : UInt8) (l1 l2 : List UInt8), Op.bytesLess (c :: l1) (d :: l2) = true ↔ (c.toNat < d.toNat ∨ (c.toNat = d.toNat ∧ Op.bytesLess l1 l2 = true)) := fun c d l1 l2 => by
    simp only [Op.bytesLess, Bool.or_eq_true, decide_eq_true_eq, Bool.and_eq_true, beq_iff_eq, UInt8.lt_iff_toNat_lt, ← UInt8.toNat_inj]
  have pw : ∀ i j : Nat, i < j → j ≤ 8 → (2 : Nat) ^ (8 - j) ≤ 2 ^ (7 - i) := fun i j h h8 => Nat.pow_le_pow_right (by omega) (by omega)
  rw [Bool.eq_iff_iff, decide_eq_true_iff]
  unfold uintB
  rw [e2, n1, m1]
  obtain ⟨qn, hqn⟩ : ∃ q, q = n / 2 ^ (8 * bh n) := ⟨_, rfl⟩
  obtain ⟨qm, hqm⟩ : ∃ q, q = m / 2 ^ (8 * bh m) := ⟨_, rfl⟩
  rw [← hqn] at n2 n3 ⊢
  rw [← hqm] at m2 m3 ⊢
  rcases Nat.lt_trichotomy (bh n) (bh m) with h | h | h
  · have := pw _ _ h hm8
    have h1 := n2 (by omega)
    have h2 := bh_lt h
    have h3 : (2 : Nat) ^ (7 - bh n) ≤ 128 := Nat.pow_le_pow_right (by omega) (show 7 - bh n ≤ 7 by omega)
    constructor
    · intro _; exact h2
    · intro _; left; omega
  · have := less_acc (be (bh n) n) (be (bh n) m) (by simp) (n / 2 ^ (8 * bh n)) (m / 2 ^ (8 * bh n))
    rw [acc_be, acc_be] at this
    rw [← h] at hqm ⊢
    rw [← hqn, ← hqm] at this
    rw [this]
    generalize Op.bytesLess (be (bh n) n) (be (bh n) m) = z
    constructor
    · rintro (h | ⟨h, hz⟩)
      · exact .inl (by omega)
      · exact .inr ⟨by omega, hz⟩
    · rintro (h | ⟨h, hz⟩)
      · exact .inl (by omega)
      · exact .inr ⟨by omega, hz⟩
  · have := pw _ _ h hn8
    have h1 := m2 (by omega)
    have h2 := bh_lt h
    have h3 : (2 : Nat) ^ (7 - bh m) ≤ 128 := Nat.pow_le_pow_right (by omega) (show 7 - bh m ≤ 7 by omega)
    constructor
    · rintro (h | ⟨h, _⟩) <;> omega
    · intro _; omega
end Go.Proofs.YthppbefemfkccaaDoor
namespace Go.Proofs.YthppbefemfkccaaDoor
open Go.RowKit

theorem acc_inj (k : Nat) : ∀ (a b : Nat) (l m : List UInt8), l.length = k → m.length = k → acc a l = acc b m → a = b ∧ l = m := by
  induction k with
  | zero =>
    intro a b l m hl hm h
    obtain rfl := List.eq_nil_of_length_eq_zero hl
    obtain rfl := List.eq_nil_of_length_eq_zero hm
    exact ⟨h, rfl⟩
  | succ k ih =>
    intro a b l m hl hm h
    have hl0 : l ≠ [] := by rintro rfl; simp at hl
    have hm0 : m ≠ [] := by rintro rfl; simp at hm
    obtain ⟨l', c, rfl⟩ : ∃ l' c, l = l' ++ [c] := ⟨l.dropLast, l.getLast hl0, (List.dropLast_concat_getLast hl0).symm⟩
    obtain ⟨m', d, rfl⟩ : ∃ m' d, m = m' ++ [d] := ⟨m.dropLast, m.getLast hm0, (List.dropLast_concat_getLast hm0).symm⟩
    rw [acc_snoc, acc_snoc] at h
    have h1 := c.toNat_lt
    have h2 := d.toNat_lt
    rw [List.length_append, List.length_singleton] at hl hm
    have h3 := ih a b l' m' (by omega) (by omega) (by omega)
    have h4 : c = d := by
      rw [h3.1, h3.2] at h
      exact UInt8.toNat_inj.1 (by omega)
    exact ⟨h3.1, by rw [h3.2, h4]⟩
theorem numB_inv {l : List UInt8} {n k : Nat} (h : numB l = (n, k, 0)) : l = uintB n ++ l.drop k := by
  cases l with
  | nil => simp [numB] at h
  | cons b t =>
    rw [numB_cons] at h
    split at h
    · cases h
    · rename_i h1
      split at h
      · rename_i h2
        injection h with h3 h4
        injection h4 with h5 h6
        subst h5
        rw [h3] at h2
        have hk : lead b ≤ t.length := by omega
        have hlt : (t.take (lead b)).length = lead b := by rw [List.length_take]; omega
        have hi := acc_inj (lead b) (tail b) (n / 2 ^ (8 * bh n)) (t.take (lead b)) (be (bh n) n) hlt (by simp [h2]) (by rw [h3, acc_be])
        unfold uintB
        rw [← hi.1, ← hi.2, h2, List.drop_succ_cons, List.cons_append, List.take_append_drop]
        congr 1
        have hh := lead_head b
        refine UInt8.toNat_inj.1 ?_
        unfold tail
        rw [UInt8.toNat_ofNat']
        have := b.toNat_lt
        omega
      · cases h
end Go.Proofs.YthppbefemfkccaaDoor
namespace Go.Proofs.YthppbefemfkccaaDoor
open Go.RowKit

/-- The sum of bytes behind a sum. -/
def hmore (n : Int) (l : List UInt8) : Int := l.foldl (fun n c => (n * 257 + (c.toNat : Int)) % 2147483647) n
theorem hmore_nil (n : Int) : hmore n [] = n := rfl
theorem hmore_append (n : Int) (a b : List UInt8) : hmore n (a ++ b) = hmore (hmore n a) b := by simp [hmore]
theorem hmore_snoc (n : Int) (l : List UInt8) (k : Nat) (h : k < l.length) : hmore n (l.take (k+1)) = (hmore n (l.take k) * 257 + (l[k].toNat : Int)) % 2147483647 := by
  unfold hmore; rw [List.take_succ_eq_append_getElem h, List.foldl_append]; rfl
theorem hmore_snoc' (n : Int) (l : List UInt8) (k : Nat) (h : k < l.length) : hmore n (l.take (k+1)) = (256 * hmore n (l.take k) + hmore n (l.take k) + (l[k].toNat : Int)) % 2147483647 := by
  rw [hmore_snoc n l k h]; congr 1; omega
theorem hmore_range (n : Int) (l : List UInt8) (h : 0 ≤ n ∧ n < 2147483647) : 0 ≤ hmore n l ∧ hmore n l < 2147483647 := by
  induction l generalizing n with
  | nil => simpa [hmore] using h
  | cons c l ih =>
    have := ih ((n * 257 + (c.toNat : Int)) % 2147483647) (by omega)
    simpa [hmore] using this
theorem byte_lt (c : UInt8) : (c.toNat : Int) < 256 := by have := c.toNat_lt; omega

/-! ## Powers of the base, and two sums joined -/
def hpw (n : Nat) : Nat := 257 ^ n % 2147483647
theorem hpw_lt (n : Nat) : hpw n < 2147483647 := Nat.mod_lt _ (by omega)
theorem pow_split (b k : Nat) : b ^ k = b ^ (k % 2) * (b * b) ^ (k / 2) := by
  conv => lhs; rw [← Nat.mod_add_div k 2]
  rw [Nat.pow_add, Nat.pow_mul, Nat.pow_two]
theorem pow_even (o b k P : Nat) (h : k % 2 = 0) : (o * (b * b % P) ^ (k / 2)) % P = (o * b ^ k) % P := by
  rw [pow_split b k, h, Nat.pow_zero, Nat.one_mul, Nat.mul_mod, ← Nat.pow_mod, ← Nat.mul_mod]
theorem pow_odd (o b k P : Nat) (h : k % 2 = 1) : (o * b % P * (b * b % P) ^ (k / 2)) % P = (o * b ^ k) % P := by
  rw [pow_split b k, h, Nat.pow_one, Nat.mul_mod, ← Nat.pow_mod, Nat.mod_mod, ← Nat.mul_mod, Nat.mul_assoc]
/-- The sum of two texts, one behind the other, by their sums. -/
def hjoin (a b : Int) (n : Nat) : Int := ((a + 2147483646) % 2147483647 * (hpw n : Int) + b) % 2147483647
theorem hjoin_range (a b : Int) (n : Nat) : 0 ≤ hjoin a b n ∧ hjoin a b n < 2147483647 := by unfold hjoin; omega
theorem hpw_add (i k : Nat) : hpw (i + k) = hpw i * hpw k % 2147483647 := by
  unfold hpw
  rw [Nat.pow_add, Nat.mul_mod]
theorem hjoin_one (a : Int) (n : Nat) : hjoin 1 a n = a % 2147483647 := by
  unfold hjoin
  simp
/-- Laid behind a text of no sum, in two steps or in one. -/
theorem hjoin_twice (a : Int) (i k : Nat) : hjoin (hjoin a 1 i) 1 k = hjoin a 1 (i + k) := by
  unfold hjoin
  rw [hpw_add]
  simp only [Int.natCast_emod, Int.natCast_mul, Int.cast_ofNat_Int]
  generalize (hpw i : Int) = p
  generalize (hpw k : Int) = q
  generalize (a + 2147483646) % 2147483647 = x
  have e1 : ((x * p + 1) % 2147483647 + 2147483646) % 2147483647 = (x * p) % 2147483647 := by omega
  rw [e1]
  have e2 : (x * p % 2147483647 * q) % 2147483647 = (x * (p * q % 2147483647)) % 2147483647 := by
    rw [Int.mul_emod, Int.emod_emod, ← Int.mul_emod, Int.mul_emod x, Int.emod_emod, ← Int.mul_emod, Int.mul_assoc]
  omega

theorem hpw_succ (k : Nat) : hpw (k + 1) = hpw k * 257 % 2147483647 := by
  unfold hpw
  rw [Nat.pow_succ, Nat.mul_mod]
/-- The sum of bytes behind a sum, by their own sum. -/
theorem hjoin_more (s : Int) (hs : 0 ≤ s ∧ s < 2147483647) (b : List UInt8) : hjoin s (hmore 1 b) b.length = hmore s b := by
  have key : ∀ k, k ≤ b.length → hjoin s (hmore 1 (b.take k)) k = hmore s (b.take k) := by
    intro k
    induction k with
    | zero => intro _; simp only [List.take_zero, hmore_nil]; unfold hjoin; simp [hpw]; omega
    | succ k ih =>
      intro hk
      have h := ih (by omega)
      rw [hmore_snoc _ _ k (by omega), hmore_snoc _ _ k (by omega)]
      have r1 := hmore_range 1 (b.take k) (by omega)
      have r2 := hmore_range s (b.take k) hs
      have hb := byte_lt b[k]
      unfold hjoin at h ⊢
      rw [hpw_succ]
      simp only [Int.natCast_emod, Int.natCast_mul, Int.cast_ofNat_Int]
      generalize (hpw k : Int) = p at h ⊢
      generalize (s + 2147483646) % 2147483647 = u at h ⊢
      generalize hmore 1 (b.take k) = m1 at h r1 ⊢
      generalize hmore s (b.take k) = ms at h r2 ⊢
      have e : (u * (p * 257 % 2147483647)) % 2147483647 = (u * p * 257) % 2147483647 := by
        rw [Int.mul_emod, Int.emod_emod, ← Int.mul_emod, Int.mul_assoc]
      generalize u * (p * 257 % 2147483647) = y at e ⊢
      generalize u * p = x at h e
      omega
  have := key b.length (Nat.le_refl _)
  rwa [List.take_length] at this
end Go.Proofs.YthppbefemfkccaaDoor
namespace Go.Proofs.YthppbefemfkccaaDoor
open Go.RowKit

def keyA (s : List UInt8) : Nat := (hmore 1 s).toNat
def keyB (s : List UInt8) : Nat := (hmore 1 (1 :: s)).toNat
theorem keyA_is (s : List UInt8) : hmore 1 s = (keyA s : Int) := by
  have := hmore_range 1 s (by decide); unfold keyA; omega
theorem keyB_is (s : List UInt8) : hmore 1 (1 :: s) = (keyB s : Int) := by
  have := hmore_range 1 (1 :: s) (by decide); unfold keyB; omega
theorem keyA_lt (s : List UInt8) : keyA s < 2147483647 := by have := hmore_range 1 s (by decide); unfold keyA; omega
theorem keyB_lt (s : List UInt8) : keyB s < 2147483647 := by have := hmore_range 1 (1 :: s) (by decide); unfold keyB; omega
def bitK (n : Nat) (s : List UInt8) (i : Nat) : Nat := (keyA s + i * keyB s) % n
def bitsK (n k : Nat) (s : List UInt8) : List Nat := (List.range k).map (bitK n s)
@[simp] theorem bitsK_len (n k : Nat) (s : List UInt8) : (bitsK n k s).length = k := by simp [bitsK]
theorem bitsK_get (n k : Nat) (s : List UInt8) (i : Nat) (h : i < k) : (bitsK n k s)[i]'(by simpa using h) = bitK n s i := by simp [bitsK]
theorem bitsK_lt {n k : Nat} {s : List UInt8} (hn : 0 < n) {j : Nat} (h : j ∈ bitsK n k s) : j < n := by
  unfold bitsK at h
  rw [List.mem_map] at h
  obtain ⟨i, _, rfl⟩ := h
  exact Nat.mod_lt _ hn
def orBit (bs : List UInt8) (j : Nat) : List UInt8 := bs.set (j / 8) (bs.getD (j / 8) 0 ||| UInt8.ofNat (2 ^ (j % 8)))
@[simp] theorem orBit_len (bs : List UInt8) (j : Nat) : (orBit bs j).length = bs.length := by simp [orBit]
def orAll (bs : List UInt8) (l : List Nat) : List UInt8 := l.foldl orBit bs
theorem orAll_len (bs : List UInt8) (l : List Nat) : (orAll bs l).length = bs.length := by
  unfold orAll
  induction l generalizing bs with
  | nil => rfl
  | cons j l ih => rw [List.foldl_cons, ih, orBit_len]
theorem orAll_snoc (bs : List UInt8) (l : List Nat) (k : Nat) (h : k < l.length) : orAll bs (l.take (k + 1)) = orBit (orAll bs (l.take k)) l[k] := by
  unfold orAll
  rw [List.take_succ_eq_append_getElem h, List.foldl_append]
  rfl
theorem orAll_append (bs : List UInt8) (a b : List Nat) : orAll bs (a ++ b) = orAll (orAll bs a) b := List.foldl_append
def hasBit (bs : List UInt8) (j : Nat) : Bool := (bs.getD (j / 8) 0).toNat.testBit (j % 8)
theorem u8_or_bit (x : UInt8) (r i : Nat) (hr : r < 8) : (x ||| UInt8.ofNat (2 ^ r)).toNat.testBit i = (x.toNat.testBit i || decide (r = i)) := by
  rw [UInt8.toNat_or, Nat.testBit_or, UInt8.toNat_ofNat']
  have h2 : 2 ^ r % 2 ^ 8 = 2 ^ r := Nat.mod_eq_of_lt (Nat.pow_lt_pow_right (by decide) hr)
  rw [h2, Nat.testBit_two_pow]
theorem hasBit_or (bs : List UInt8) (j i : Nat) (hj : j / 8 < bs.length) : hasBit (orBit bs j) i = (hasBit bs i || decide (j = i)) := by
  unfold hasBit orBit
  by_cases h : j / 8 = i / 8
  · rw [← h]
    rw [List.getD_eq_getElem?_getD, List.getElem?_set_self hj, Option.getD_some, u8_or_bit _ _ _ (Nat.mod_lt _ (by decide))]
    congr 1
    rw [decide_eq_decide]
    omega
  · rw [List.getD_eq_getElem?_getD, List.getElem?_set_ne h, ← List.getD_eq_getElem?_getD]
    have : ¬ j = i := fun e => h (by rw [e])
    simp [this]
theorem hasBit_all (l : List Nat) : ∀ (bs : List UInt8) (i : Nat), (∀ j ∈ l, j / 8 < bs.length) → hasBit (orAll bs l) i = (hasBit bs i || decide (i ∈ l)) := by
  induction l with
  | nil => intro bs i _; simp [orAll]
  | cons j l ih =>
    intro bs i h
    show hasBit (orAll (orBit bs j) l) i = _
    rw [ih _ _ (fun x hx => by rw [orBit_len]; exact h x (by simp [hx])), hasBit_or _ _ _ (h j (by simp))]
    by_cases e : j = i
    · subst e; simp
    · have e' : ¬ i = j := fun x => e x.symm
      simp [e, e']
theorem u8_ext {x y : UInt8} (h : ∀ r, r < 8 → x.toNat.testBit r = y.toNat.testBit r) : x = y := by
  refine UInt8.toNat_inj.1 (Nat.eq_of_testBit_eq fun r => ?_)
  by_cases hr : r < 8
  · exact h r hr
  · have hp : 2 ^ 8 ≤ 2 ^ r := Nat.pow_le_pow_right (by decide) (by omega)
    have hx := x.toNat_lt
    have hy := y.toNat_lt
    rw [Nat.testBit_lt_two_pow (by omega), Nat.testBit_lt_two_pow (by omega)]
theorem bits_ext {a b : List UInt8} (hl : a.length = b.length) (h : ∀ i, hasBit a i = hasBit b i) : a = b := by
  refine List.ext_getElem hl fun q h1 h2 => ?_
  refine u8_ext fun r hr => ?_
  have := h (8 * q + r)
  unfold hasBit at this
  rw [show (8 * q + r) / 8 = q by omega, show (8 * q + r) % 8 = r by omega] at this
  simpa [List.getD_eq_getElem?_getD, List.getElem?_eq_getElem h1, List.getElem?_eq_getElem h2] using this
/-- Which bits are set is all that counts, not in which order. -/
theorem orAll_same {bs : List UInt8} {l m : List Nat} (hl : ∀ j ∈ l, j / 8 < bs.length) (hm : ∀ j ∈ m, j / 8 < bs.length) (h : ∀ i, i ∈ l ↔ i ∈ m) : orAll bs l = orAll bs m := by
  refine bits_ext (by rw [orAll_len, orAll_len]) fun i => ?_
  rw [hasBit_all l bs i hl, hasBit_all m bs i hm]
  congr 1
  rw [decide_eq_decide]
  exact h i
def mayK (bs : List UInt8) (l : List Nat) : Bool := l.all (hasBit bs)
def fullK (bs : List UInt8) : Nat := (bs.map fun b => Lib.onesCount b.toNat).sum
end Go.Proofs.YthppbefemfkccaaDoor
namespace Go.Proofs.YthppbefemfkccaaDoor
open Go.RowKit

set_option maxHeartbeats 400000 in
theorem more_any (s : Int) (A : Option Addr) (l : List UInt8) (c : Nat) (w : World) (hs : 0 ≤ s ∧ s ≤ 4294967295) (hl : l.length ≤ 140737488355328) (hr : RdB w A l) :
    Calls Tryd.prog 44 #[.int .u32 s, .slice A l.length c] w fun e w' => e = .returned (.int .u32 (hmore (s % 2147483647) l)) ∧ w = w' := by
  have HR := Lib.hid hr
  clear hr
  obtain ⟨hs1, hs2⟩ := hs
  go_enter Tryd.func44, Tryd.ntmps44
  go_wp2
  go_loop [5, 13] (fun n i => ∃ k : Nat, k ≤ l.length ∧ i = .int .i64 k ∧ n = .int .u64 (hmore (s % 2147483647) (l.take k))) (fun _ i => l.length - (intOf i).toNat)
  case atStart => exact ⟨0, Nat.zero_le _, rfl, rfl⟩
  case round =>
    obtain ⟨k, hk, rfl, rfl⟩ := hrel
    have hm := hmore_range (s % 2147483647) (l.take k) (by omega)
    by_cases hlt : k < l.length
    · have hsn := Lib.hid (hmore_snoc (s % 2147483647) l k hlt)
      obtain ⟨ad, rfl, hc⟩ := HR.out.at_ hlt
      have hb := byte_lt l[k]
      go_wp2
      go_round
      case rel => exact ⟨k + 1, by omega, by go_num, by rw [hsn.out]⟩
      case measure => simp [intOf]; omega
    · obtain rfl : k = l.length := by omega
      have ht := Lib.hid (List.take_length (l := l))
      go_wp2
      go_ret
      refine ⟨ret_int ?_, rfl⟩
      rw [ht.out] at hm
      simp only [Int.emod_eq_of_lt hm.1 (show hmore (s % 2147483647) l < 4294967296 by omega)]

theorem sum_any (A : Option Addr) (l : List UInt8) (c : Nat) (w : World) (hl : l.length ≤ 140737488355328) (hr : RdB w A l) :
    Calls Tryd.prog 24 #[.slice A l.length c] w fun e w' => e = .returned (.int .u32 (hmore 1 l)) ∧ w = w' := by
  have HR := Lib.hid hr
  clear hr
  go_enter Tryd.func24, Tryd.ntmps24
  go_wp2_with fail
  refine (more_any 1 A l c _ (by omega) hl HR.out).mono ?_
  rintro e w' ⟨rfl, rfl⟩
  go_wp2_with fail
  go_ret
  exact ⟨rfl, rfl⟩

set_option maxHeartbeats 400000 in
theorem refmore_any (s : Int) (A : Option Addr) (l : List UInt8) (c : Nat) (w : World) (hs : 0 ≤ s ∧ s ≤ 4294967295) (hl : l.length ≤ 140737488355328) (hr : RdB w A l) :
    Calls Tryd.prog 45 #[.int .u32 s, .slice A l.length c] w fun e w' => e = .returned (.int .u32 (hmore (s % 2147483647) l)) ∧ w = w' := by
  have HR := Lib.hid hr
  clear hr
  obtain ⟨hs1, hs2⟩ := hs
  go_enter Tryd.func45, Tryd.ntmps45
  go_wp2
  go_loop [5, 6] (fun n i => ∃ k : Nat, k ≤ l.length ∧ i = .int .i64 k ∧ n = .int .u64 (hmore (s % 2147483647) (l.take k))) (fun _ i => l.length - (intOf i).toNat)
  case atStart => exact ⟨0, Nat.zero_le _, rfl, rfl⟩
  case round =>
    obtain ⟨k, hk, rfl, rfl⟩ := hrel
    have hm := hmore_range (s % 2147483647) (l.take k) (by omega)
    by_cases hlt : k < l.length
    · have hsn := Lib.hid (hmore_snoc' (s % 2147483647) l k hlt)
      obtain ⟨ad, rfl, hc⟩ := HR.out.at_ hlt
      have hb := byte_lt l[k]
      go_wp2
      go_round
      case rel => exact ⟨k + 1, by omega, by go_num, by rw [hsn.out]⟩
      case measure => simp [intOf]; omega
    · obtain rfl : k = l.length := by omega
      have ht := Lib.hid (List.take_length (l := l))
      go_wp2
      go_ret
      refine ⟨ret_int ?_, rfl⟩
      rw [ht.out] at hm
      simp only [Int.emod_eq_of_lt hm.1 (show hmore (s % 2147483647) l < 4294967296 by omega)]
theorem refsum_any (A : Option Addr) (l : List UInt8) (c : Nat) (w : World) (hl : l.length ≤ 140737488355328) (hr : RdB w A l) :
    Calls Tryd.prog 25 #[.slice A l.length c] w fun e w' => e = .returned (.int .u32 (hmore 1 l)) ∧ w = w' := by
  have HR := Lib.hid hr
  clear hr
  go_enter Tryd.func25, Tryd.ntmps25
  go_wp2_with fail
  refine (refmore_any 1 A l c _ (by omega) hl HR.out).mono ?_
  rintro e w' ⟨rfl, rfl⟩
  go_wp2_with fail
  go_ret
  exact ⟨rfl, rfl⟩
end Go.Proofs.YthppbefemfkccaaDoor
namespace Go.Proofs.YthppbefemfkccaaDoor
open Go.RowKit

section
variable {P : Program} (w : World)
theorem run_part_one {e : TypeId} {d : TypeDesc} (he : P.underlying e = some d) (hd : (match d with | .struct _ => true | .array _ _ => true | _ => false) = false) (xs : Array Value) (i : Nat) (v : Value) (h : xs[i]? = some v) :
    (part e xs i).run P w = .ok v w := by
  unfold part isAgg
  simp only [Sem.run_bind, run_underlying he, Result.andThen_ok, h]
  cases d <;> simp_all

theorem run_eqItems_u8 {e : TypeId} (he : P.underlying e = some (.int .u8)) (hc : P.cellsOf e = 1) (d : Nat) (a b : List UInt8) (hab : a.length = b.length) :
    ∀ m k, k + m = a.length → (Op.eqItems (d + 1) e (P.cellsOf e) (encB a).toArray (encB b).toArray (List.range' k m)).run P w = .ok (a.drop k == b.drop k) w := by
  intro m
  induction m with
  | zero =>
    intro k hk
    rw [List.drop_of_length_le (by omega), List.drop_of_length_le (by omega)]
    simp [Op.eqItems]
  | succ m ih =>
    intro k hk
    have h1 : (encB a).toArray[k * P.cellsOf e]? = some (.int .u8 (a[k].toNat : Int)) := by simp [hc, encB, List.getElem?_eq_getElem (show k < a.length by omega)]
    have h2 : (encB b).toArray[k * P.cellsOf e]? = some (.int .u8 (b[k].toNat : Int)) := by simp [hc, encB, List.getElem?_eq_getElem (show k < b.length by omega)]
    rw [List.range'_succ]
    simp only [Op.eqItems, Sem.run_bind, run_part_one w he rfl _ _ _ h1, run_part_one w he rfl _ _ _ h2, Result.andThen_ok]
    simp only [Op.equalIn, Sem.run_bind, run_underlying he, Result.andThen_ok, if_true, Sem.run_pure]
    rw [List.drop_eq_getElem_cons (show k < a.length by omega), List.drop_eq_getElem_cons (show k < b.length by omega)]
    by_cases h : a[k] = b[k]
    · have e1 : ((a[k].toNat : Int) == (b[k].toNat : Int)) = true := by simp [h]
      rw [e1]
      simp only [Bool.not_true, Bool.false_eq_true, if_false, ih (k + 1) (by omega)]
      rw [List.cons_beq_cons, show (a[k] == b[k]) = true by simpa using h, Bool.true_and]
    · have e1 : ((a[k].toNat : Int) == (b[k].toNat : Int)) = false := by
        rw [beq_eq_false_iff_ne]
        intro hh
        exact h (UInt8.toNat_inj.1 (by omega))
      rw [e1]
      simp only [Bool.not_false, if_true, Sem.run_pure]
      rw [List.cons_beq_cons, show (a[k] == b[k]) = false by simpa using h, Bool.false_and]

theorem run_equalIn_arrB {t e : TypeId} {n : Nat} (hu : P.underlying t = some (.array n e)) (he : P.underlying e = some (.int .u8)) (hsome : (P.info? e).isSome = true) (hc : P.cellsOf e = 1)
    (a b : List UInt8) (ha : a.length = n) (hb : b.length = n) : (Op.equalIn 10000 t (.agg (encB a).toArray) (.agg (encB b).toArray)).run P w = .ok (a == b) w := by
  obtain ⟨i, hi⟩ := Option.isSome_iff_exists.1 hsome
  have h := run_eqItems_u8 (P := P) w he hc 9998 a b (by omega) n 0 (by omega)
  rw [List.drop_zero, List.drop_zero, ← List.range_eq_range'] at h
  rw [run_equalIn_array w 9999 (encB a).toArray (encB b).toArray hu hi]
  exact h
theorem run_eql_arrB {t e : TypeId} {n : Nat} (hu : P.underlying t = some (.array n e)) (he : P.underlying e = some (.int .u8)) (hsome : (P.info? e).isSome = true) (hc : P.cellsOf e = 1)
    (a b : List UInt8) (ha : a.length = n) (hb : b.length = n) : (binOp .eql t (.agg (encB a).toArray) (.agg (encB b).toArray)).run P w = .ok (.bool (a == b)) w := by
  obtain ⟨i, hi⟩ := Option.isSome_iff_exists.1 hsome
  have h := run_eqItems_u8 (P := P) w he hc 9998 a b (by omega) n 0 (by omega)
  rw [List.drop_zero, List.drop_zero, ← List.range_eq_range'] at h
  simp only [binOp]
  simp [Op.equal, Op.maxDepth, run_equalIn_array w 9999 (encB a).toArray (encB b).toArray hu hi, h]
theorem run_neq_arrB {t e : TypeId} {n : Nat} (hu : P.underlying t = some (.array n e)) (he : P.underlying e = some (.int .u8)) (hsome : (P.info? e).isSome = true) (hc : P.cellsOf e = 1)
    (a b : List UInt8) (ha : a.length = n) (hb : b.length = n) : (binOp .neq t (.agg (encB a).toArray) (.agg (encB b).toArray)).run P w = .ok (.bool (!(a == b))) w := by
  obtain ⟨i, hi⟩ := Option.isSome_iff_exists.1 hsome
  have h := run_eqItems_u8 (P := P) w he hc 9998 a b (by omega) n 0 (by omega)
  rw [List.drop_zero, List.drop_zero, ← List.range_eq_range'] at h
  simp only [binOp]
  simp [Op.equal, Op.maxDepth, run_equalIn_array w 9999 (encB a).toArray (encB b).toArray hu hi, h]
theorem run_eqGuard_arr {t : TypeId} (h : P.eqGuardType P.depth t = false) (op : BinOp) (x y : Operand) (a b : Array Value) : (eqGuard op t x y (.agg a) (.agg b)).run P w = .ok () w := by
  cases op <;> simp [eqGuard, h]
/-- A slice as an array's pointer. -/
theorem run_arrayAt {t e : TypeId} {n : Nat} (hu : P.underlying t = some (.array n e)) (a : Addr) (l c : Nat) (h : n ≤ l) : (Instr.arrayAt t (.slice (some a) l c)).run P w = .ok (.pointer (some a)) w := by
  unfold Instr.arrayAt
  simp [run_underlying hu]
  intro hlt
  omega
end
end Go.Proofs.YthppbefemfkccaaDoor
namespace Go.Proofs.YthppbefemfkccaaDoor
open Go.RowKit

/-- The numbers of the operations that are left, and they themselves, ride beside the statement, in the order in which they are to come. -/
def Seq (_is : List Nat) (_l : List Oper) (p : Prop) : Prop := p

section
variable {P : Program} {L : List Oper} {Q : Exit → Act → World → Prop} {md : Region.Mode} {S S' : World → Prop}
theorem wpAnyH_mono {ops : Array Oper} (h : ∀ x, S' x → S x) : ∀ (fuel : Nat) (listed : Array Bool) (a : Act) (w : World), wpAnyH P md ops Q S' fuel listed a w → wpAnyH P md ops Q S fuel listed a w
  | 0, _, _, _, k => k
  | fuel + 1, _, _, _, k => ⟨k.1, fun i hi => wpOp_mono (fun a' w' k' => ⟨h _ k'.1, wpAnyH_mono h fuel _ a' w' k'.2⟩) (k.2 i hi)⟩

theorem seq_start {id : Nat} {a : Act} {w : World} (hm : P.follows .mixedOrders = true) (S : World → Prop) (n : Nat) (is : List Nat) (hn : L.toArray.size = n) (hS : S w.drew)
    (h : S w.drew → Seq is L (wpAnyH P .any L.toArray (NoPanic Q) S n (Array.replicate n false) a w.drew)) : (Code.region id L.toArray true).wp P Q a w :=
  wp_region_noPanic (wp_region_held hm (by rw [hn]; exact h hS))

theorem seq_later {i : Nat} {is : List Nat} {o : Oper} {l : List Oper} {p : Prop} (h : Seq (is ++ [i]) (l ++ [o]) p) : Seq (i :: is) (o :: l) p := h

theorem seq_take {i : Nat} {is : List Nat} {l : List Oper} {oi : Oper} {v : Value} {fuel : Nat} {listed : Array Bool} {a : Act} {w : World} (hi : L.toArray[i]? = some oi)
    (hs : Region.noSelect L.toArray = true) (hf : Region.free md L.toArray listed i = true) (hr : (Region.ready md L.toArray listed).contains i = true)
    (hy : YieldsIf P L.toArray S oi v a) (hS : S w)
    (h : Seq is l (wpAnyH P md L.toArray (NoPanic Q) S fuel (listed.setIfInBounds i true) (a.put oi.dst v) w)) : Seq (i :: is) (oi :: l) (wpAnyH P md L.toArray (NoPanic Q) S (fuel + 1) listed a w) :=
  wpAnyH_take hi hs hf hr (fun _ _ _ h => h) hy hS h

theorem seq_do {i : Nat} {is : List Nat} {l : List Oper} {oi : Oper} {fuel : Nat} {listed : Array Bool} {a : Act} {w : World} (hi : L.toArray[i]? = some oi) (hr : Region.ready md L.toArray listed = [i])
    (hw : Region.wanted oi (yielded L.toArray a.tmps) = true)
    (h : ∀ K : Act → World → Prop, Hid (∀ (S' : World → Prop) (a' : Act) (w' : World), (∀ x, S' x → S x) → S' w' → (S' w' → Seq is l (wpAnyH P md L.toArray (NoPanic Q) S' fuel (listed.setIfInBounds i true) a' w')) → K a' w') → oi.wp P a w K (NoPanic Q)) :
    Seq (i :: is) (oi :: l) (wpAnyH P md L.toArray (NoPanic Q) S (fuel + 1) listed a w) := by
  refine wpAnyH_all hr (by simp) (fun j hj => ?_)
  obtain rfl : j = i := by simpa using hj
  unfold wpOp
  simp only [hi, hw, if_true]
  exact .inl (h _ (fun S' a' w' h1 h2 h3 => ⟨h1 _ h2, wpAnyH_mono h1 _ _ _ _ (h3 h2)⟩))

theorem seq_done {listed : Array Bool} {a : Act} {w : World} {fuel : Nat} (hr : Region.ready md L.toArray listed = []) (h : Q .normal a w) : Seq [] [] (wpAnyH P md L.toArray (NoPanic Q) S fuel listed a w) :=
  wpAnyH_done hr (NoPanic.normal h) fuel
end

/-- 'append' at bytes, at an operation of its own. -/
theorem op_appendB {P : Program} {w : World} {o : Oper} {a : Act} {K : Act → World → Prop} {Q : Exit → Act → World → Prop} (s x : Operand) (t E : TypeId)
    (ho : o.op = .call { callee := .builtin .append, args := #[s, x], argTypes := #[t, t] }) (ht : P.underlying t = some (.slice E))
    (hinfo : (P.info? E).map (fun i => (i.zero, i.size, i.bytes)) = some (some (.int .u8 0), 1, 1))
    (A : Option Addr) (cv : Nat) (l : List UInt8) (hs : a.eval s = .slice A l.length cv) (hown : OwnB E w A cv l)
    (A2 : Option Addr) (c : Nat) (l2 : List UInt8) (hx : a.eval x = .slice A2 l2.length c) (hr : RdB w A2 l2) (hb : l.length + l2.length ≤ 140737488355328)
    (h : ∀ A' c' w' l', Hid (l' = l ++ l2) → OwnB E w' A' c' l' → Keeps (blk A) w w' → (∀ a, A' = some a → a.block ∈ blk A ∨ w.heap.size ≤ a.block) → K (a.put o.dst (.slice A' l'.length c')) w') :
    o.wp P a w K Q := by
  obtain ⟨A', c', w', hrun, h2, h3, h4⟩ := run_append_rd (P := P) w t o.type E (.int .u8 0) 1 1 ht hinfo rfl (by decide) A l.length cv (encB l) hown A2 l2.length c (encB l2) hr (encB_one l2) (by unfold maxLen; omega) (by omega)
  have hl : l.length + l2.length = (l ++ l2).length := by simp
  rw [hl] at h2 hrun
  rw [← encB_append] at h2
  unfold Oper.wp execOp
  simp only [ho, resolve, invoke, builtin, Sem.run_bind, Sem.run_pure, Result.andThen_ok, List.map_toArray, List.map_cons, List.map_nil, hs, hx, hrun]
  exact h A' c' w' (l ++ l2) rfl h2 h3 h4


theorem yieldsIf_eql_arrB {P : Program} {ops : Array Oper} {S : World → Prop} {op : Oper} {a : Act} (hw : Region.wanted op (yielded ops a.tmps) = true) (t e : TypeId) (n : Nat) (x y : Operand) (ho : op.op = .binOp .eql t x y t)
    (hu : P.underlying t = some (.array n e)) (he : P.underlying e = some (.int .u8)) (hsome : (P.info? e).isSome = true) (hc : P.cellsOf e = 1) (hg : P.eqGuardType P.depth t = false)
    (p q : List UInt8) (hx : a.eval x = .agg (encB p).toArray) (hy : a.eval y = .agg (encB q).toArray) (hp : p.length = n) (hq : q.length = n) : YieldsIf P ops S op (.bool (p == q)) a :=
  .inl ⟨hw, fun w _ => by
    have h1 := run_eql_arrB (P := P) w hu he hsome hc p q hp hq
    have h2 := run_eqGuard_arr (P := P) w hg .eql x y (encB p).toArray (encB q).toArray
    unfold execOp
    simp only [ho, hx, hy, Sem.run_bind, h1, h2, Result.andThen_ok, Sem.run_pure]⟩

/-! ## Bytes as a string -/
def strB (l : List UInt8) : ByteArray := ⟨l.toArray⟩
theorem strB_inj {a b : List UInt8} (h : strB a = strB b) : a = b := by
  have h1 := congrArg (fun x => x.data.toList) h
  simpa [strB] using h1
theorem strB_toList (l : List UInt8) : (strB l).toList = l := by rw [ByteArray.toList_eq]; rfl
theorem strB_beq (a b : List UInt8) : ((strB a).toList == (strB b).toList) = (a == b) := by rw [strB_toList, strB_toList]
theorem strB_beq_true {a b : List UInt8} (h : a = b) : ((strB a).toList == (strB b).toList) = true := by rw [h]; simp
theorem run_conv_str {P : Program} (w : World) {src dst e : TypeId} (hs : P.underlying src = some (.slice e)) (he : P.underlying e = some (.int .u8)) (hd : P.underlying dst = some .string)
    {A : Option Addr} {l : List UInt8} (h : RdB w A l) (c : Nat) : (convert src dst (.slice A l.length c)).run P w = .ok (.string (strB l)) w := by
  rcases Nat.eq_zero_or_pos l.length with h0 | h0
  · have e0 := List.eq_nil_of_length_eq_zero h0
    subst e0
    rcases A with _ | ad
    · exact run_convert_bytes_nil w src e hs he 0 c dst hd
    · rw [List.length_nil, run_convert_bytes_string w src dst e (some ad) 0 c hs he hd]
      exact run_bytesToString (P := P) w ad 0 c [] (by simp [loadCells, loadCellsFrom])
  · obtain ⟨g, o, rfl, hc⟩ := h.form h0
    have := run_convert_bytes_arg (P := P) w src e hs he g o l.length c (l.map fun c => (c.toNat : Int)) (by simp) (fun i hi => by rw [hc i hi]; simp [List.getD_eq_getElem?_getD, List.getElem?_eq_getElem hi]) dst hd
    rw [this]
    congr 2
    simp [strOfNums, strB, Function.comp_def]
/-- A reading of old bytes as a string, in every world that keeps what there was. -/
theorem conv_keeps {P : Program} {w : World} {src dst e : TypeId} (hs : P.underlying src = some (.slice e)) (he : P.underlying e = some (.int .u8)) (hd : P.underlying dst = some .string)
    {A : Option Addr} {l : List UInt8} (h : RdB w A l) (c : Nat) (w' : World) (hk : Keeps [] w w') : (convert src dst (.slice A l.length c)).run P w' = .ok (.string (strB l)) w' :=
  run_conv_str w' hs he hd (h.keeps0 hk) c
end Go.Proofs.YthppbefemfkccaaDoor
