/- The law on sums: called with any sum and any bytes it answers true. -/
import Derived.Test.YtpflfbenadgknaaHorner
namespace Go.Proofs.Ytpflfbenadgknaa
open Go.RowKit

theorem refsum_any (A : Option Addr) (l : List UInt8) (c : Nat) (w : World) (hl : l.length ≤ 140737488351232) (hr : RdB w A l) :
    Calls Try.prog 7 #[.slice A l.length c] w fun e w' => e = .returned (.int .u32 (hmore 1 l)) ∧ w = w' := by
  have HR := Lib.hid hr
  clear hr
  go_enter Try.func7, Try.ntmps7
  go_wp2_with fail
  refine (refmore_any 1 A l c _ (by omega) hl HR.out).mono ?_
  rintro e w' ⟨rfl, rfl⟩
  go_wp2_with fail
  go_ret
  exact ⟨rfl, rfl⟩

theorem sure_any (w : World) :
    Calls Try.prog 5 #[] w fun e w' => e = .returned (.bool true) ∧ Below w.heap.size w w' := by
  have kc := fun (w : World) (C : Array Value) (n c : Nat) => Lib.run_convert_bytes_const (P := Try.prog) w 23 5 C n c Try.underlying23 Try.underlying5
  have HR := Lib.hid (RdB.lit w [97, 98] 5 (2, 3))
  go_enter Try.func5, Try.ntmps5
  go_wp2_with fail
  refine (sum_any _ [97, 98] 2 _ (by simp) HR.out).mono ?_
  rintro e w' ⟨rfl, rfl⟩
  go_wp2_with fail
  refine (sum_any _ [] 0 _ (by simp) (RdB.nil _ _)).mono ?_
  rintro e w' ⟨rfl, rfl⟩
  go_wp2_with fail
  go_ret
  exact ⟨rfl, (Below.refl _ _).alloc (Nat.le_refl _) _⟩

set_option maxHeartbeats 400000 in
theorem law_any (s : Int) (A : Option Addr) (l : List UInt8) (c : Nat) (w : World) (hs : 0 ≤ s ∧ s ≤ 4294967295) (hl : l.length ≤ 140737488351232) (hr : RdB w A l) :
    Calls Try.prog 3 #[.int .u32 s, .slice A l.length c] w fun e w' => e = .returned (.bool true) ∧ Below w.heap.size w w' := by
  have HR := Lib.hid hr
  clear hr
  by_cases hlt : (20000 : Int) < l.length
  · go_enter Try.func3, Try.ntmps3
    go_wp2_with fail
    refine (sure_any _).mono ?_
    rintro e w' ⟨rfl, hb⟩
    go_wp2_with fail
    go_ret
    exact ⟨rfl, hb⟩
  · go_enter Try.func3, Try.ntmps3
    go_wp2_with fail
    refine (sum_any A l c _ hl HR.out).mono ?_
    rintro e w' ⟨rfl, rfl⟩
    go_wp2_with fail
    refine (refsum_any A l c _ hl HR.out).mono ?_
    rintro e w' ⟨rfl, rfl⟩
    go_wp2_with fail
    refine (more_any s A l c _ hs hl HR.out).mono ?_
    rintro e w' ⟨rfl, rfl⟩
    go_wp2_with fail
    refine (refmore_any s A l c _ hs hl HR.out).mono ?_
    rintro e w' ⟨rfl, rfl⟩
    go_wp2_with fail
    refine (sure_any _).mono ?_
    rintro e w' ⟨rfl, hb⟩
    go_wp2_with fail
    go_ret
    exact ⟨rfl, hb⟩
end Go.Proofs.Ytpflfbenadgknaa
