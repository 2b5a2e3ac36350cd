/- What the program's and the document's Horner sums compute, called with any bytes: contracts. -/
import Derived.Test.YthppbefemfkccaaProg
import Derived.Test.YthppbefemfkccaaHornerPlain
namespace Go.Proofs.Ythppbefemfkccaa
open Go.RowKit

set_option maxHeartbeats 400000 in
theorem more_any (s : Int) (A : Option Addr) (l : List UInt8) (c : Nat) (w : World) (hs : 0 ≤ s ∧ s ≤ 4294967295) (hl : l.length ≤ 140737488355328) (hr : RdB w A l) :
    Calls Try.prog 31 #[.int .u32 s, .slice A l.length c] w fun e w' => e = .returned (.int .u32 (hmore (s % 2147483647) l)) ∧ w = w' := by
  have HR := Lib.hid hr
  clear hr
  obtain ⟨hs1, hs2⟩ := hs
  go_enter Try.func31, Try.ntmps31
  go_wp2
  go_loop [5, 13] (fun n i => ∃ k : Nat, k ≤ l.length ∧ i = .int .i64 k ∧ n = .int .u64 (hmore (s % 2147483647) (l.take k))) (fun _ i => l.length - (intOf i).toNat)
  case atStart => exact ⟨0, Nat.zero_le _, rfl, rfl⟩
  case round =>
    obtain ⟨k, hk, rfl, rfl⟩ := hrel
    have hm := hmore_range (s % 2147483647) (l.take k) (by omega)
    by_cases hlt : k < l.length
    · have hsn := Lib.hid (hmore_snoc (s % 2147483647) l k hlt)
      obtain ⟨ad, rfl, hc⟩ := HR.out.at_ hlt
      have hb := byte_lt l[k]
      go_wp2
      go_round
      case rel => exact ⟨k + 1, by omega, by go_num, by rw [hsn.out]⟩
      case measure => simp [intOf]; omega
    · obtain rfl : k = l.length := by omega
      have ht := Lib.hid (List.take_length (l := l))
      go_wp2
      go_ret
      refine ⟨ret_int ?_, rfl⟩
      rw [ht.out] at hm
      simp only [Int.emod_eq_of_lt hm.1 (show hmore (s % 2147483647) l < 4294967296 by omega)]

theorem sum_any (A : Option Addr) (l : List UInt8) (c : Nat) (w : World) (hl : l.length ≤ 140737488355328) (hr : RdB w A l) :
    Calls Try.prog 22 #[.slice A l.length c] w fun e w' => e = .returned (.int .u32 (hmore 1 l)) ∧ w = w' := by
  have HR := Lib.hid hr
  clear hr
  go_enter Try.func22, Try.ntmps22
  go_wp2_with fail
  refine (more_any 1 A l c _ (by omega) hl HR.out).mono ?_
  rintro e w' ⟨rfl, rfl⟩
  go_wp2_with fail
  go_ret
  exact ⟨rfl, rfl⟩

end Go.Proofs.Ythppbefemfkccaa
