/- What the program's power and its join of two sums compute, called with any numbers: contracts. -/
import Derived.Test.YtpflfbenadgknaaDoorHorner
namespace Go.Proofs.YtpflfbenadgknaaDoor
open Go.RowKit

theorem ofInt64 (a : Nat) (ha : a < 18446744073709551616) : (BitVec.ofInt 64 (a : Int)).toNat = a := by
  rw [BitVec.ofInt_natCast, BitVec.toNat_ofNat]; exact Nat.mod_eq_of_lt (by omega)
theorem and1_i64 (k : Nat) (h : k ≤ 9223372036854775807) : bits .and .i64 (k : Int) 1 = ((k % 2 : Nat) : Int) := by
  show IntKind.i64.wrap ((BitVec.ofInt 64 (k : Int) &&& BitVec.ofInt 64 ((1 : Nat) : Int)).toNat : Int) = _
  rw [BitVec.toNat_and, ofInt64 k (by omega), ofInt64 1 (by omega), Nat.and_one_is_mod, IntKind.wrap_i64]
  omega
theorem u64_mulmod (a b : Nat) (ha : a < 2147483647) (hb : b < 2147483647) : (IntKind.u64.wrap ((a : Int) * (b : Int))).tmod 2147483647 = ((a * b % 2147483647 : Nat) : Int) := by
  have h : a * b ≤ 2147483646 * 2147483646 := Nat.mul_le_mul (by omega) (by omega)
  rw [← Int.natCast_mul, IntWalk.u64_in _ (by omega), IntWalk.rem_in _ _ (by omega)]
  omega

set_option maxHeartbeats 400000 in
theorem power_any (n : Nat) (w : World) (hn : n ≤ 9223372036854775807) :
    Calls Tryd.prog 17 #[.int .i64 n] w fun e w' => e = .returned (.int .u64 (hpw n : Nat)) ∧ w = w' := by
  go_enter Tryd.func17, Tryd.ntmps17
  go_wp2
  go_loop [0, 3, 4] (fun x o b => ∃ k o' b' : Nat, x = .int .i64 k ∧ o = .int .u64 o' ∧ b = .int .u64 b' ∧ o' < 2147483647 ∧ b' < 2147483647 ∧ k ≤ n ∧ Hid (o' * b' ^ k % 2147483647 = hpw n)) (fun x _ _ => (intOf x).toNat)
  case atStart => exact ⟨n, 1, 257, rfl, rfl, rfl, by omega, by omega, Nat.le_refl _, by show _ = _; simp [hpw]⟩
  case round =>
    obtain ⟨k, o', b', rfl, rfl, rfl, ho, hb, hk, hinv⟩ := hrel
    have ha := Lib.hid (and1_i64 k (by omega))
    by_cases h0 : 0 < k
    · rcases Nat.mod_two_eq_zero_or_one k with hp | hp
      · have HP := Lib.hid hp
        clear hp
        have ht : (bits BinOp.and IntKind.i64 (k : Int) 1 == 1) = false := by rw [ha.out, HP.out]; rfl
        go_wp2
        go_round
        case rel =>
          refine ⟨k / 2, o', b' * b' % 2147483647, by go_num, rfl, by rw [u64_mulmod b' b' hb hb], ho, Nat.mod_lt _ (by omega), by omega, ?_⟩
          show _ = _
          rw [pow_even _ _ _ _ HP.out]; exact hinv
        case measure => simp [intOf]; omega
      · have HP := Lib.hid hp
        clear hp
        have ht : (bits BinOp.and IntKind.i64 (k : Int) 1 == 1) = true := by rw [ha.out, HP.out]; rfl
        go_wp2
        go_round
        case rel =>
          refine ⟨k / 2, o' * b' % 2147483647, b' * b' % 2147483647, by go_num, by rw [u64_mulmod o' b' ho hb], by rw [u64_mulmod b' b' hb hb], Nat.mod_lt _ (by omega), Nat.mod_lt _ (by omega), by omega, ?_⟩
          show _ = _
          rw [pow_odd _ _ _ _ HP.out]; exact hinv
        case measure => simp [intOf]; omega
    · obtain rfl : k = 0 := by omega
      go_wp2
      go_ret
      refine ⟨ret_int ?_, rfl⟩
      have := hinv.out
      simp only [Nat.pow_zero, Nat.mul_one, Nat.mod_eq_of_lt ho] at this
      rw [this]

theorem join_calc (a b : Int) (n : Nat) (hb : 0 ≤ b ∧ b ≤ 4294967295) :
    (IntKind.u64.wrap (IntKind.u64.wrap ((a + 2147483647 - 1) % 2147483647 * (hpw n : Int)) + b)).tmod 2147483647 = hjoin a b n := by
  have hp := hpw_lt n
  have hx : 0 ≤ (a + 2147483646) % 2147483647 ∧ (a + 2147483646) % 2147483647 < 2147483647 := by omega
  obtain ⟨x, hx'⟩ := Int.eq_ofNat_of_zero_le hx.1
  have h : x * hpw n ≤ 2147483646 * 2147483646 := Nat.mul_le_mul (by omega) (by omega)
  unfold hjoin
  rw [show a + 2147483647 - 1 = a + 2147483646 by omega, hx', ← Int.natCast_mul]
  generalize x * hpw n = y at h
  rw [IntWalk.u64_in (y : Int) (by omega), IntWalk.u64_in _ (by omega), IntWalk.rem_in _ _ (by omega)]

set_option maxHeartbeats 400000 in
theorem join_any (a b : Int) (n : Nat) (w : World) (ha : 0 ≤ a ∧ a ≤ 4294967295) (hb : 0 ≤ b ∧ b ≤ 4294967295) (hn : n ≤ 9223372036854775807) :
    Calls Tryd.prog 8 #[.int .u32 a, .int .u32 b, .int .i64 n] w fun e w' => e = .returned (.tuple #[.int .u32 (hjoin a b n), .nilIface]) ∧ w = w' := by
  obtain ⟨ha1, ha2⟩ := ha
  obtain ⟨hb1, hb2⟩ := hb
  have hc := Lib.hid (join_calc a b n ⟨hb1, hb2⟩)
  have hjr := hjoin_range a b n
  go_enter Tryd.func8, Tryd.ntmps8
  go_wp2_with fail
  refine (power_any n _ hn).mono ?_
  rintro e w' ⟨rfl, rfl⟩
  go_wp2_with fail
  go_ret2
  refine ⟨?_, rfl⟩
  show Ending.returned (.tuple #[.int .u32 ((IntKind.u64.wrap (IntKind.u64.wrap ((a + 2147483647 - 1) % 2147483647 * (hpw n : Int)) + b)).tmod 2147483647 % 4294967296), .nilIface]) = _
  rw [hc.out, Int.emod_eq_of_lt hjr.1 (by omega)]

/-- A length below nought is refused. -/
theorem join_neg (a b n : Int) (w : World) (hn : n < 0) :
    Calls Tryd.prog 8 #[.int .u32 a, .int .u32 b, .int .i64 n] w fun e w' => e = .returned (.tuple #[.int .u32 0, .iface 45 (.int .i64 1)]) ∧ w = w' := by
  go_enter Tryd.func8, Tryd.ntmps8
  go_wp2_with fail
  go_ret2
  exact ⟨rfl, rfl⟩
end Go.Proofs.YtpflfbenadgknaaDoor
