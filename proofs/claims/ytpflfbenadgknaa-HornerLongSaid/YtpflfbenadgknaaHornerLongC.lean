/- The law on long joins: called with any three numbers it answers true. -/
import Derived.Test.YtpflfbenadgknaaHornerJoin
namespace Go.Proofs.Ytpflfbenadgknaa
open Go.RowKit

theorem sure_any (w : World) :
    Calls Try.prog 5 #[] w fun e w' => e = .returned (.bool true) ∧ Below w.heap.size w w' := by
  have kc := fun (w : World) (C : Array Value) (n c : Nat) => Lib.run_convert_bytes_const (P := Try.prog) w 23 5 C n c Try.underlying23 Try.underlying5
  have HR := Lib.hid (RdB.lit w [97, 98] 5 (2, 3))
  go_enter Try.func5, Try.ntmps5
  go_wp2_with fail
  refine (sum_any _ [97, 98] 2 _ (by simp) HR.out).mono ?_
  rintro e w' ⟨rfl, rfl⟩
  go_wp2_with fail
  refine (sum_any _ [] 0 _ (by simp) (RdB.nil _ _)).mono ?_
  rintro e w' ⟨rfl, rfl⟩
  go_wp2_with fail
  go_ret
  exact ⟨rfl, (Below.refl _ _).alloc (Nat.le_refl _) _⟩

theorem cut30 (n : Int) :
    ∃ i : Nat, i < 1073741824 ∧ wrap64 ((IntKind.u64.wrap n).tmod 1073741824) = (i : Int) := by
  have hw : IntKind.u64.wrap n = n % 18446744073709551616 := IntKind.wrap_u64 n
  rw [hw, IntWalk.rem_in _ _ (by omega)]
  have : 0 ≤ n % 18446744073709551616 % 1073741824 ∧ n % 18446744073709551616 % 1073741824 < 1073741824 := by omega
  refine ⟨(n % 18446744073709551616 % 1073741824).toNat, by omega, ?_⟩
  rw [IntWalk.wrap64_in _ (by omega)]
  omega

set_option maxHeartbeats 1000000 in
theorem law_any (a n m : Int) (w : World) (ha : 0 ≤ a ∧ a ≤ 4294967295) :
    Calls Try.prog 4 #[.int .u32 a, .int .i64 n, .int .i64 m] w fun e w' => e = .returned (.bool true) ∧ Below w.heap.size w w' := by
  obtain ⟨i, hi, hi'⟩ := cut30 n
  obtain ⟨k, hk, hk'⟩ := cut30 m
  have r1 := hjoin_range a 1 i
  have H2 := Lib.hid (hjoin_twice a i k)
  have H3 := Lib.hid (hjoin_one a i)
  obtain ⟨ha1, ha2⟩ := ha
  go_enter Try.func4, Try.ntmps4
  go_wp2_with fail
  refine (join_any a 1 i _ ⟨ha1, ha2⟩ (by omega) (by omega)).mono ?_
  rintro e w' ⟨rfl, rfl⟩
  go_wp2_with fail
  refine (join_any _ 1 k _ (by omega) (by omega) (by omega)).mono ?_
  rintro e w' ⟨rfl, rfl⟩
  go_wp2_with fail
  refine (join_any a 1 (i + k) _ ⟨ha1, ha2⟩ (by omega) (by omega)).mono ?_
  rintro e w' ⟨rfl, rfl⟩
  go_wp2_with fail
  refine (join_any 1 a i _ (by omega) ⟨ha1, ha2⟩ (by omega)).mono ?_
  rintro e w' ⟨rfl, rfl⟩
  rw [H2.out, H3.out]
  go_wp2_with fail
  refine (sure_any _).mono ?_
  rintro e w' ⟨rfl, hb⟩
  go_wp2_with fail
  go_ret
  exact ⟨rfl, hb⟩
end Go.Proofs.Ytpflfbenadgknaa
