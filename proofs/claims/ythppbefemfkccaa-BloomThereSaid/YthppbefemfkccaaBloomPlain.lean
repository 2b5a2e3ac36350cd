/- The filter's bits, as numbers and bytes. No program is named here. -/
import Derived.Test.YthppbefemfkccaaHornerPlain
import Derived.Lib.BitFns
namespace Go.Proofs.Ythppbefemfkccaa
open Go.RowKit

def keyA (s : List UInt8) : Nat := (hmore 1 s).toNat
def keyB (s : List UInt8) : Nat := (hmore 1 (1 :: s)).toNat
theorem keyA_is (s : List UInt8) : hmore 1 s = (keyA s : Int) := by
  have := hmore_range 1 s (by decide); unfold keyA; omega
theorem keyB_is (s : List UInt8) : hmore 1 (1 :: s) = (keyB s : Int) := by
  have := hmore_range 1 (1 :: s) (by decide); unfold keyB; omega
theorem keyA_lt (s : List UInt8) : keyA s < 2147483647 := by have := hmore_range 1 s (by decide); unfold keyA; omega
theorem keyB_lt (s : List UInt8) : keyB s < 2147483647 := by have := hmore_range 1 (1 :: s) (by decide); unfold keyB; omega
def bitK (n : Nat) (s : List UInt8) (i : Nat) : Nat := (keyA s + i * keyB s) % n
def bitsK (n k : Nat) (s : List UInt8) : List Nat := (List.range k).map (bitK n s)
@[simp] theorem bitsK_len (n k : Nat) (s : List UInt8) : (bitsK n k s).length = k := by simp [bitsK]
theorem bitsK_get (n k : Nat) (s : List UInt8) (i : Nat) (h : i < k) : (bitsK n k s)[i]'(by simpa using h) = bitK n s i := by simp [bitsK]
theorem bitsK_lt {n k : Nat} {s : List UInt8} (hn : 0 < n) {j : Nat} (h : j ∈ bitsK n k s) : j < n := by
  unfold bitsK at h
  rw [List.mem_map] at h
  obtain ⟨i, _, rfl⟩ := h
  exact Nat.mod_lt _ hn
def orBit (bs : List UInt8) (j : Nat) : List UInt8 := bs.set (j / 8) (bs.getD (j / 8) 0 ||| UInt8.ofNat (2 ^ (j % 8)))
@[simp] theorem orBit_len (bs : List UInt8) (j : Nat) : (orBit bs j).length = bs.length := by simp [orBit]
def orAll (bs : List UInt8) (l : List Nat) : List UInt8 := l.foldl orBit bs
theorem orAll_len (bs : List UInt8) (l : List Nat) : (orAll bs l).length = bs.length := by
  unfold orAll
  induction l generalizing bs with
  | nil => rfl
  | cons j l ih => rw [List.foldl_cons, ih, orBit_len]
theorem orAll_snoc (bs : List UInt8) (l : List Nat) (k : Nat) (h : k < l.length) : orAll bs (l.take (k + 1)) = orBit (orAll bs (l.take k)) l[k] := by
  unfold orAll
  rw [List.take_succ_eq_append_getElem h, List.foldl_append]
  rfl
theorem orAll_append (bs : List UInt8) (a b : List Nat) : orAll bs (a ++ b) = orAll (orAll bs a) b := List.foldl_append
def hasBit (bs : List UInt8) (j : Nat) : Bool := (bs.getD (j / 8) 0).toNat.testBit (j % 8)
theorem u8_or_bit (x : UInt8) (r i : Nat) (hr : r < 8) : (x ||| UInt8.ofNat (2 ^ r)).toNat.testBit i = (x.toNat.testBit i || decide (r = i)) := by
  rw [UInt8.toNat_or, Nat.testBit_or, UInt8.toNat_ofNat']
  have h2 : 2 ^ r % 2 ^ 8 = 2 ^ r := Nat.mod_eq_of_lt (Nat.pow_lt_pow_right (by decide) hr)
  rw [h2, Nat.testBit_two_pow]
theorem hasBit_or (bs : List UInt8) (j i : Nat) (hj : j / 8 < bs.length) : hasBit (orBit bs j) i = (hasBit bs i || decide (j = i)) := by
  unfold hasBit orBit
  by_cases h : j / 8 = i / 8
  · rw [← h]
    rw [List.getD_eq_getElem?_getD, List.getElem?_set_self hj, Option.getD_some, u8_or_bit _ _ _ (Nat.mod_lt _ (by decide))]
    congr 1
    rw [decide_eq_decide]
    omega
  · rw [List.getD_eq_getElem?_getD, List.getElem?_set_ne h, ← List.getD_eq_getElem?_getD]
    have : ¬ j = i := fun e => h (by rw [e])
    simp [this]
theorem hasBit_all (l : List Nat) : ∀ (bs : List UInt8) (i : Nat), (∀ j ∈ l, j / 8 < bs.length) → hasBit (orAll bs l) i = (hasBit bs i || decide (i ∈ l)) := by
  induction l with
  | nil => intro bs i _; simp [orAll]
  | cons j l ih =>
    intro bs i h
    show hasBit (orAll (orBit bs j) l) i = _
    rw [ih _ _ (fun x hx => by rw [orBit_len]; exact h x (by simp [hx])), hasBit_or _ _ _ (h j (by simp))]
    by_cases e : j = i
    · subst e; simp
    · have e' : ¬ i = j := fun x => e x.symm
      simp [e, e']
theorem u8_ext {x y : UInt8} (h : ∀ r, r < 8 → x.toNat.testBit r = y.toNat.testBit r) : x = y := by
  refine UInt8.toNat_inj.1 (Nat.eq_of_testBit_eq fun r => ?_)
  by_cases hr : r < 8
  · exact h r hr
  · have hp : 2 ^ 8 ≤ 2 ^ r := Nat.pow_le_pow_right (by decide) (by omega)
    have hx := x.toNat_lt
    have hy := y.toNat_lt
    rw [Nat.testBit_lt_two_pow (by omega), Nat.testBit_lt_two_pow (by omega)]
theorem bits_ext {a b : List UInt8} (hl : a.length = b.length) (h : ∀ i, hasBit a i = hasBit b i) : a = b := by
  refine List.ext_getElem hl fun q h1 h2 => ?_
  refine u8_ext fun r hr => ?_
  have := h (8 * q + r)
  unfold hasBit at this
  rw [show (8 * q + r) / 8 = q by omega, show (8 * q + r) % 8 = r by omega] at this
  simpa [List.getD_eq_getElem?_getD, List.getElem?_eq_getElem h1, List.getElem?_eq_getElem h2] using this
/-- Which bits are set is all that counts, not in which order. -/
theorem orAll_same {bs : List UInt8} {l m : List Nat} (hl : ∀ j ∈ l, j / 8 < bs.length) (hm : ∀ j ∈ m, j / 8 < bs.length) (h : ∀ i, i ∈ l ↔ i ∈ m) : orAll bs l = orAll bs m := by
  refine bits_ext (by rw [orAll_len, orAll_len]) fun i => ?_
  rw [hasBit_all l bs i hl, hasBit_all m bs i hm]
  congr 1
  rw [decide_eq_decide]
  exact h i
def mayK (bs : List UInt8) (l : List Nat) : Bool := l.all (hasBit bs)
def fullK (bs : List UInt8) : Nat := (bs.map fun b => Lib.onesCount b.toNat).sum
end Go.Proofs.Ythppbefemfkccaa
