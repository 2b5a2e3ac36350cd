/- Powers, and how many bytes a number has, by the document: contracts. -/
import Derived.Test.YtficgbeolmdbiaaPackPlain
import Derived.Test.YtficgbeolmdbiaaProg
namespace Go.Proofs.Ytficgbeolmdbiaa
open Go.RowKit

theorem pkpower_any (n : Nat) (w : World) (hn : n ≤ 63) : Calls Try.prog 44 #[.int .i64 n] w fun e w' => e = .returned (.int .u64 ((2 ^ n : Nat) : Int)) ∧ w = w' := by
  go_enter Try.func44, Try.ntmps44
  go_wp2_with fail
  go_loop [3, 4] (fun p i => ∃ j : Nat, j ≤ n ∧ i = .int .i64 j ∧ p = .int .u64 ((2 ^ j : Nat) : Int)) (fun _ i => n - (intOf i).toNat)
  case atStart => exact ⟨0, Nat.zero_le _, rfl, rfl⟩
  case round =>
    obtain ⟨j, hj, rfl, rfl⟩ := hrel
    by_cases hlt : j < n
    · have hp : (2 : Nat) ^ j ≤ 2 ^ 62 := Nat.pow_le_pow_right (by omega) (by omega)
      obtain ⟨P, hP⟩ : ∃ P, P = (2 : Nat) ^ j := ⟨_, rfl⟩
      rw [← hP] at hp ⊢
      have hp2 : (P : Int) ≤ 4611686018427387904 := by omega
      have HP := Lib.hid (show P * 2 = 2 ^ (j + 1) by rw [hP, Nat.pow_succ])
      clear hP hp
      go_wp2_with fail
      go_round
      case rel => exact ⟨j + 1, by omega, by go_num, by rw [← HP.out, Int.natCast_mul, Int.mul_comm]; rfl⟩
      case measure => simp [intOf]; omega
    · obtain rfl : j = n := by omega
      go_wp2_with fail
      go_ret
      exact ⟨rfl, rfl⟩

theorem pkmore_any (n : Nat) (w : World) : Calls Try.prog 40 #[.int .u64 n] w fun e w' => e = .returned (.int .i64 (bh n : Nat)) ∧ w = w' := by
  go_enter Try.func40, Try.ntmps40
  go_wp2_with fail
  go_loop [3] (fun i => ∃ k : Nat, k ≤ 8 ∧ i = .int .i64 k ∧ Hid (0 < k → 2 ^ (7 * k) ≤ n)) (fun i => 8 - (intOf i).toNat)
  case atStart => exact ⟨0, by omega, rfl, fun h => absurd h (by omega)⟩
  case round =>
    obtain ⟨k, hk, rfl, hH⟩ := hrel
    by_cases hlt : k < 8
    · have hk3 : (k : Int) ≤ 7 := by omega
      go_wp2_with fail
      have := pkpower_any (7 * k + 7) w (by omega)
      rw [show ((7 * k + 7 : Nat) : Int) = 7 * (k : Int) + 7 by omega] at this
      refine this.mono ?_
      rintro e w' ⟨rfl, rfl⟩
      obtain ⟨P, hP⟩ : ∃ P, P = (2 : Nat) ^ (7 * k + 7) := ⟨_, rfl⟩
      rw [← hP]
      have HP := Lib.hid hP
      clear hP this
      by_cases hnp : n < P
      · have hnp' : (n : Int) < (P : Int) := by omega
        have HN := Lib.hid hnp
        clear hnp
        go_wp2_with fail
        go_ret
        exact ⟨ret_int (by rw [bh_unique (n := n) (k := k) (by omega) (fun _ => by rw [← HP.out]; exact HN.out) hH.out]), rfl⟩
      · have hnp' : ¬ (n : Int) < (P : Int) := by omega
        have HN := Lib.hid hnp
        clear hnp
        go_wp2_with fail
        go_round
        case rel => exact ⟨k + 1, by omega, by go_num, fun _ => by have := HN.out; rw [HP.out] at this; rw [show 7 * (k + 1) = 7 * k + 7 by omega]; omega⟩
        case measure => simp [intOf]; omega
    · obtain rfl : k = 8 := by omega
      go_wp2_with fail
      go_ret
      exact ⟨ret_int (by rw [bh_unique (n := n) (k := 8) (by omega) (fun h => absurd h (by omega)) hH.out]; rfl), rfl⟩

theorem pkones_any (k : Nat) (w : World) (hk : k ≤ 8) : Calls Try.prog 42 #[.int .i64 k] w fun e w' => e = .returned (.int .u8 ((256 - 2 ^ (8 - k) : Nat) : Int)) ∧ w = w' := by
  go_enter Try.func42, Try.ntmps42
  go_wp2_with fail
  have := pkpower_any (8 - k) w (by omega)
  rw [show ((8 - k : Nat) : Int) = 8 - (k : Int) by omega] at this
  refine this.mono ?_
  rintro e w' ⟨rfl, rfl⟩
  have h1 : (1 : Nat) ≤ 2 ^ (8 - k) := Nat.one_le_two_pow
  have h2 : (2 : Nat) ^ (8 - k) ≤ 2 ^ 8 := Nat.pow_le_pow_right (by omega) (by omega)
  obtain ⟨P, hP⟩ : ∃ P, P = (2 : Nat) ^ (8 - k) := ⟨_, rfl⟩
  rw [← hP] at h1 h2 ⊢
  have hp1 : (1 : Int) ≤ (P : Int) := by omega
  have hp2 : (P : Int) ≤ 256 := by omega
  have HP := Lib.hid hP
  clear hP this h2
  go_wp2_with fail
  go_ret
  refine ⟨ret_int ?_, rfl⟩
  rw [← HP.out]
  omega

end Go.Proofs.Ytficgbeolmdbiaa
