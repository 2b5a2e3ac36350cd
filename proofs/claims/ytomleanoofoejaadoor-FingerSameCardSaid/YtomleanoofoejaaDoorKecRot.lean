/- RotateLeft64: a contract. -/
import Derived.Test.YtomleanoofoejaaDoorKecPlain
import Derived.Test.YtomleanoofoejaaDoorArr
import Derived.Test.YtomleanoofoejaaDoorMem
import Derived.Test.YtomleanoofoejaaDoorProg
namespace Go.Proofs.YtomleanoofoejaaDoor
open Go.RowKit
theorem rot_any (x k : Nat) (hx : x < 18446744073709551616) (hk : k ≤ 300) (w : World) : Calls Tryd.prog 43 #[.int .u64 x, .int .i64 k] w fun e w' => e = .returned (.int .u64 ((rotl x k : Nat) : Int)) ∧ w = w' := by
  obtain ⟨s, hs⟩ : ∃ s, s = k % 64 := ⟨_, rfl⟩
  have hand : bits .and .u64 (k : Int) 63 = (s : Int) := by
    have := u64_and_nat k 63 (by omega) (by decide)
    rw [show ((63 : Nat) : Int) = 63 from rfl] at this
    rw [this, hs, show (63 : Nat) = 2 ^ 6 - 1 from rfl, Nat.and_two_pow_sub_one_eq_mod]
  have h1 : (s : Int) < 64 := by omega
  have e : bits .or .u64 (IntKind.u64.wrap ((x : Int) * 2 ^ s)) ((x : Int) / 2 ^ (64 - s)) = ((rotl x k : Nat) : Int) := by
    have e1 : IntKind.u64.wrap ((x : Int) * 2 ^ s) = ((x * 2 ^ s % 18446744073709551616 : Nat) : Int) := by rw [IntKind.wrap_u64]; simp
    have e2 : (x : Int) / 2 ^ (64 - s) = ((x / 2 ^ (64 - s) : Nat) : Int) := by simp
    rw [e1, e2, u64_or_nat _ _ (Nat.mod_lt _ (by decide)) (Nat.lt_of_le_of_lt (Nat.div_le_self _ _) hx)]
    unfold rotl
    rw [← hs]
  clear hs
  go_enter Tryd.func43, Tryd.ntmps43
  go_wp2_with fail
  go_ret
  exact ⟨rfl, rfl⟩
end Go.Proofs.YtomleanoofoejaaDoor
