/- Horner's sums in plain numbers: no program is named here. -/
import Derived.Test.YtpflfbenadgknaaBase
namespace Go.Proofs.Ytpflfbenadgknaa
open Go.RowKit

/-- The sum of bytes behind a sum. -/
def hmore (n : Int) (l : List UInt8) : Int := l.foldl (fun n c => (n * 257 + (c.toNat : Int)) % 2147483647) n
theorem hmore_nil (n : Int) : hmore n [] = n := rfl
theorem hmore_append (n : Int) (a b : List UInt8) : hmore n (a ++ b) = hmore (hmore n a) b := by simp [hmore]
theorem hmore_snoc (n : Int) (l : List UInt8) (k : Nat) (h : k < l.length) : hmore n (l.take (k+1)) = (hmore n (l.take k) * 257 + (l[k].toNat : Int)) % 2147483647 := by
  unfold hmore; rw [List.take_succ_eq_append_getElem h, List.foldl_append]; rfl
theorem hmore_snoc' (n : Int) (l : List UInt8) (k : Nat) (h : k < l.length) : hmore n (l.take (k+1)) = (256 * hmore n (l.take k) + hmore n (l.take k) + (l[k].toNat : Int)) % 2147483647 := by
  rw [hmore_snoc n l k h]; congr 1; omega
theorem hmore_range (n : Int) (l : List UInt8) (h : 0 ≤ n ∧ n < 2147483647) : 0 ≤ hmore n l ∧ hmore n l < 2147483647 := by
  induction l generalizing n with
  | nil => simpa [hmore] using h
  | cons c l ih =>
    have := ih ((n * 257 + (c.toNat : Int)) % 2147483647) (by omega)
    simpa [hmore] using this
theorem byte_lt (c : UInt8) : (c.toNat : Int) < 256 := by have := c.toNat_lt; omega
end Go.Proofs.Ytpflfbenadgknaa
