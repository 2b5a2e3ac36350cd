/- What was laid is taken off as it was: plain numbers and lists. -/
import Derived.Test.YtficgbeolmdbiaaPackOrd
import Derived.Test.YtficgbeolmdbiaaPackRp
import Derived.Test.YtficgbeolmdbiaaPackRe
namespace Go.Proofs.Ytficgbeolmdbiaa
open Go.RowKit

theorem bnd_uint (n : Nat) (hn : n < 18446744073709551616) (most : Nat) (above left : Int) (rest : List UInt8) (h : n ≤ most) (hl : left ≠ 0 → n ≤ rest.length) : bnd most above left (uintB n ++ rest) = (rest, 0, n) := by
  unfold bnd
  rw [numB_uint n hn rest]
  simp only [ne_eq, not_true_eq_false, if_false]
  have hlen : (uintB n).length = bh n + 1 := by simp
  rw [if_neg (by omega), if_neg (by rintro ⟨h1, h2⟩; have := hl h2; rw [List.length_append, hlen] at h1; omega)]
  rw [← hlen, List.drop_left]
theorem uintR_uint (n : Nat) (hn : n < 18446744073709551616) (rest : List UInt8) : uintR 18446744073709551615 (uintB n ++ rest) 0 = (rest, 0, n) := by
  unfold uintR
  rw [if_neg (by simp), bnd_uint n hn _ _ _ _ (by omega) (by simp)]
theorem intR_int (n : Int) (h1 : -9223372036854775808 ≤ n) (h2 : n ≤ 9223372036854775807) (rest : List UInt8) : intR (intB n ++ rest) 0 = (rest, 0, n) := by
  by_cases hn : n < 0
  · rw [show intB n = 1 :: uintB (-(n + 1)).toNat by unfold intB; rw [if_pos hn], List.cons_append]
    unfold intR
    rw [if_neg (by simp)]
    simp only
    rw [bnd_uint _ (by omega) _ _ _ _ (by omega) (by simp)]
    simp
    omega
  · rw [show intB n = 0 :: uintB n.toNat by unfold intB; rw [if_neg hn], List.cons_append]
    unfold intR
    rw [if_neg (by simp)]
    simp only
    rw [bnd_uint _ (by omega) _ _ _ _ (by omega) (by simp)]
    simp
    omega
theorem boolR_bool (b : Bool) (rest : List UInt8) : boolR ([if b then 1 else 0] ++ rest) 0 = (rest, 0, b) := by
  cases b <;> simp [boolR]
theorem bytesR_bytes (l rest : List UInt8) (hl : l.length < 9223372036854775808) : bytesR (l.length : Int) (lenB l ++ rest) 0 = (rest, 0, l) := by
  unfold bytesR lenB
  rw [if_neg (by simp), if_neg (by omega), List.append_assoc, bnd_uint _ (by omega) _ _ _ _ (by simp) (by simp)]
  simp
theorem printR_print (p rest : List UInt8) (h32 : p.length = 32) : printR (p ++ rest) 0 = (rest, 0, p) := by
  have e : offR 32 (p ++ rest) 0 = (rest, 0, p) := by
    unfold offR
    rw [if_neg (by simp), if_neg (by rw [List.length_append]; omega), ← h32, List.drop_left, List.take_left]
  unfold printR
  rw [e]
  simp [h32]
theorem doneR_nil : doneR [] 0 = 0 := by decide
end Go.Proofs.Ytficgbeolmdbiaa
