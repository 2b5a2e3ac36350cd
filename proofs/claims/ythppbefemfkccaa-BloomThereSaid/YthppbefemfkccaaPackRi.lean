/- Numbers taken off: contracts. -/
import Derived.Test.YthppbefemfkccaaPackRb
import Derived.Test.YthppbefemfkccaaPackWr
namespace Go.Proofs.Ythppbefemfkccaa
open Go.RowKit

/-- A number from 0 on. -/
def uintR (most : Nat) (l : List UInt8) (e : Int) : List UInt8 × Int × Nat := if e ≠ 0 then (l, e, 0) else bnd most 4 0 l
theorem bnd_ok {most : Nat} {above left : Int} {l : List UInt8} (ha : above ≠ 0) (h : (bnd most above left l).2.1 = 0) : (bnd most above left l).2.2 ≤ most ∧ (bnd most above left l).2.2 < 2 ^ 64 := by
  have hl := numB_lt l
  unfold bnd at h ⊢
  split at h
  · rename_i h1; exact absurd h h1
  · rename_i h1
    rw [if_neg h1]
    split at h
    · exact absurd h ha
    · rename_i h2
      rw [if_neg h2]
      split at h
      · rename_i h3; exact absurd h h3.2
      · rename_i h3
        rw [if_neg h3]
        exact ⟨by show (numB l).1 ≤ most; omega, hl.1⟩
theorem bnd_len (most : Nat) (above left : Int) (l : List UInt8) : (bnd most above left l).2.2 < 2 ^ 64 := by
  have hl := numB_lt l
  unfold bnd
  repeat' split
  all_goals first | exact hl.1 | (show 0 < 2 ^ 64; decide)

theorem rduint_any (g : Nat) (A : Option Addr) (c : Nat) (l : List UInt8) (e : Int) (w : World) (h : Rdr w g A c l e) (most : Nat) :
    Calls Try.prog 19 #[.pointer (some ⟨g, 0, none⟩), .int .u64 most] w (RdV g A (uintR most l e) w) := by
  have H := Lib.hid h
  clear h
  have call : Calls Try.prog 27 #[.pointer (some ⟨g, 0, none⟩), .agg #[.int .u64 most, .iface 39 (.int .i64 4), .nilIface]] w (RdV g A (uintR most l e) w) := by
    by_cases he : e = 0
    · subst he
      have := bounded_any g A c l w H.out most 4 0 (by decide)
      rw [errV_zero, errV_other (by decide)] at this
      unfold uintR
      rw [if_neg (by simp)]
      exact this
    · unfold uintR
      rw [if_pos he]
      exact bounded_bad g A c l e w H.out he most _ _
  have HC := Lib.hid call
  clear call
  go_enter Try.func19, Try.ntmps19
  go_wp2_with fail
  refine HC.out.mono ?_
  rintro en w' ⟨A', c', l', hl, rfl, hr, hk, hb⟩
  have HP := Lib.hid (And.intro hr (And.intro hk hb))
  clear hr hk hb
  go_wp2_with fail
  go_ret
  exact ⟨A', c', l', hl, rfl, HP.out.1, HP.out.2⟩

/-- A number. -/
def intR (l : List UInt8) (e : Int) : List UInt8 × Int × Int :=
  if e ≠ 0 then (l, e, 0) else match l with
  | [] => ([], 12, 0)
  | b :: t => if 1 < b.toNat then (b :: t, 3, 0) else
    if (bnd 9223372036854775807 4 0 t).2.1 ≠ 0 then (b :: t, (bnd 9223372036854775807 4 0 t).2.1, 0)
    else ((bnd 9223372036854775807 4 0 t).1, 0, if b.toNat = 1 then -(((bnd 9223372036854775807 4 0 t).2.2 : Nat) + 1 : Int) else ((bnd 9223372036854775807 4 0 t).2.2 : Nat))
def RdI (g : Nat) (A : Option Addr) (r : List UInt8 × Int × Int) (w : World) (en : Ending) (w' : World) : Prop := RdPost g A r.1 r.2.1 (.int .i64 r.2.2) w en w'

end Go.Proofs.Ythppbefemfkccaa
