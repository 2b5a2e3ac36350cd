/- By a nil writer nothing is laid: contracts. -/
import Derived.Test.YtficgbeolmdbiaaPackWr
namespace Go.Proofs.Ytficgbeolmdbiaa
open Go.RowKit

def NilP (w : World) (e : Ending) (w' : World) : Prop := e = .returned (.pointer none) ∧ Keeps [] w w'
theorem rawnil_any (v : Value) (w w0 : World) (h : Keeps [] w0 w) : Calls Try.prog 22 #[.pointer none, v] w (NilP w0) := by
  refine (raw_nil v w).mono ?_
  rintro e w' ⟨rfl, rfl⟩
  exact ⟨rfl, h⟩

theorem uint_nil (n : Nat) (w : World) (hn : n < 18446744073709551616) : Calls Try.prog 7 #[.pointer none, .int .u64 n] w (NilP w) := by
  have hk8 := bh_le n
  by_cases hk : bh n < 8
  all_goals
    go_enter Try.func7, Try.ntmps7
    go_wp2_with fail
    refine (behind_any n _ hn).mono ?_
    rintro e w' ⟨rfl, rfl⟩
    obtain ⟨k, hke⟩ : ∃ k, k = bh n := ⟨_, rfl⟩
    rw [← hke] at hk hk8 ⊢
    clear hke
    have hki : (k : Int) ≤ 8 := by omega
    go_wp2_with fail
    refine (head_any k _ hk8).mono ?_
    rintro e w' ⟨rfl, rfl⟩
    go_wp2_with fail
    refine (rawnil_any _ _ w ((Keeps.refl [] w).alloc _)).mono ?_
    rintro e w1 ⟨rfl, hk1⟩
    have HK1 := Lib.hid hk1
    clear hk1
    go_wp2_with fail
    go_loopw [26] (fun i wr => ∃ j : Nat, j ≤ k ∧ i = .int .i64 j ∧ Hid (Keeps [] w wr)) (fun i _ => k - (intOf i).toNat)
    case atStart => exact ⟨0, Nat.zero_le _, rfl, HK1.out⟩
    case round =>
      obtain ⟨j, hj, rfl, hst⟩ := hrel
      by_cases hlt : j < k
      · go_wp2_with fail
        refine (rawnil_any _ _ w (hst.out.alloc _)).mono ?_
        rintro e w2 ⟨rfl, hk2⟩
        have HK2 := Lib.hid hk2
        clear hk2
        go_wp2_with fail
        go_roundw
        case rel => exact ⟨j + 1, by omega, by go_num, HK2.out⟩
        case measure => simp [intOf]; omega
      · have hjk : ¬ (j : Int) < (k : Int) := by omega
        clear hlt hj
        go_wp2_with fail
        go_ret
        exact ⟨rfl, hst.out⟩

theorem bool_nil (b : Bool) (w : World) : Calls Try.prog 24 #[.pointer none, .bool b] w (NilP w) := by
  cases b
  all_goals
    go_enter Try.func24, Try.ntmps24
    go_wp2_with fail
    refine (rawnil_any _ _ w ((Keeps.refl [] w).alloc _)).mono ?_
    rintro e w1 ⟨rfl, hk1⟩
    go_wp2_with fail
    go_ret
    exact ⟨rfl, hk1⟩
theorem int_nil (n : Int) (h1 : -9223372036854775808 ≤ n) (h2 : n ≤ 9223372036854775807) (w : World) : Calls Try.prog 25 #[.pointer none, .int .i64 n] w (NilP w) := by
  by_cases hn : n < 0
  · obtain ⟨m, hm⟩ : ∃ m : Nat, (m : Int) = -(n + 1) := ⟨(-(n + 1)).toNat, by omega⟩
    have hx : bits .xor .i64 (-1) n = (m : Int) := by rw [hm]; exact i64_not_any n h1 h2
    have hm0 : m < 9223372036854775808 := by omega
    have hm1 : IntKind.u64.wrap (m : Int) = (m : Int) := by rw [IntKind.wrap_u64]; omega
    clear hm
    go_enter Try.func25, Try.ntmps25
    go_wp2_with fail
    refine (rawnil_any _ _ w ((Keeps.refl [] w).alloc _)).mono ?_
    rintro e w1 ⟨rfl, hk1⟩
    have HK1 := Lib.hid hk1
    clear hk1
    go_wp2_with fail
    refine (uint_nil m _ (by omega)).mono ?_
    rintro e w2 ⟨rfl, hk2⟩
    go_wp2_with fail
    go_ret
    exact ⟨rfl, HK1.out.trans hk2 (by simp)⟩
  · obtain ⟨m, hm⟩ : ∃ m : Nat, (m : Int) = n := ⟨n.toNat, by omega⟩
    subst hm
    have hm1 : IntKind.u64.wrap (m : Int) = (m : Int) := by rw [IntKind.wrap_u64]; omega
    go_enter Try.func25, Try.ntmps25
    go_wp2_with fail
    refine (rawnil_any _ _ w ((Keeps.refl [] w).alloc _)).mono ?_
    rintro e w1 ⟨rfl, hk1⟩
    have HK1 := Lib.hid hk1
    clear hk1
    go_wp2_with fail
    refine (uint_nil m _ (by omega)).mono ?_
    rintro e w2 ⟨rfl, hk2⟩
    go_wp2_with fail
    go_ret
    exact ⟨rfl, HK1.out.trans hk2 (by simp)⟩
theorem bytes_nil (A2 : Option Addr) (k c2 : Nat) (hk : k ≤ 140737488355328) (w : World) : Calls Try.prog 27 #[.pointer none, .slice A2 k c2] w (NilP w) := by
  go_enter Try.func27, Try.ntmps27
  go_wp2_with fail
  refine (uint_nil k _ (by omega)).mono ?_
  rintro e w1 ⟨rfl, hk1⟩
  have HK1 := Lib.hid hk1
  clear hk1
  go_wp2_with fail
  refine (rawnil_any _ _ w HK1.out).mono ?_
  rintro e w2 ⟨rfl, hk2⟩
  go_wp2_with fail
  go_ret
  exact ⟨rfl, hk2⟩
theorem text_nil (x : List UInt8) (hx : x.length ≤ 140737488355328) (w : World) : Calls Try.prog 26 #[.pointer none, .string (strB x)] w (NilP w) := by
  have hsz := strB_size x
  go_enter Try.func26, Try.ntmps26
  go_wp2_with fail
  refine (uint_nil x.length _ (by omega)).mono ?_
  rintro e w1 ⟨rfl, hk1⟩
  have HK1 := Lib.hid hk1
  have kc := Lib.run_convert_string_bytes (P := Try.prog) w1 9 23 5 (strB x) Try.underlying9 Try.underlying23 Try.underlying5
  clear hk1
  go_wp2_with fail
  refine (rawnil_any _ _ w (HK1.out.trans (keeps_conv w1 _ _) (by simp))).mono ?_
  rintro e w2 ⟨rfl, hk2⟩
  go_wp2_with fail
  go_ret
  exact ⟨rfl, hk2⟩
theorem print_nil (x : List UInt8) (w : World) : Calls Try.prog 28 #[.pointer none, .agg (encB x).toArray] w (NilP w) := by
  go_enter Try.func28, Try.ntmps28
  go_wp2_with fail
  refine (rawnil_any _ _ w ((Keeps.refl [] w).alloc _)).mono ?_
  rintro e w1 ⟨rfl, hk1⟩
  go_wp2_with fail
  go_ret
  exact ⟨rfl, hk1⟩
end Go.Proofs.Ytficgbeolmdbiaa
