/- The document's turning of a lane: a contract. -/
import Derived.Test.YtomleanoofoejaaDoorKecRot
import Derived.Test.YtomleanoofoejaaDoorRegionZ
namespace Go.Proofs.YtomleanoofoejaaDoor
open Go.RowKit

theorem rotl_zero (x n : Nat) (hx : x < 18446744073709551616) (hn : n % 64 = 0) : rotl x n = x := by
  unfold rotl
  rw [hn]
  simp only [Nat.pow_zero, Nat.mul_one, Nat.sub_zero]
  rw [Nat.mod_eq_of_lt hx, Nat.div_eq_of_lt (show x < 2 ^ 64 by simpa using hx)]
  simp
set_option maxHeartbeats 1000000 in
theorem turned_any (x n : Nat) (w : World) (hx : x < 18446744073709551616) (hn : n < 1000) :
    Calls Tryd.prog 36 #[.int .u64 x, .int .i64 n] w fun e w' => e = .returned (.int .u64 (rotl x n : Nat)) ∧ Keeps [] w w' := by
  obtain ⟨r, hr⟩ : ∃ r, r = n % 64 := ⟨_, rfl⟩
  have d1 : (n : Int).tmod 64 = (r : Int) := by rw [Int.tmod_eq_emod_of_nonneg (by omega)]; omega
  have HX := Lib.hid hx
  have HR := Lib.hid hr
  have HL := Lib.hid (rotl_lt x n hx)
  by_cases h0 : r = 0
  · have e1 : ((r : Int) == 0) = true := by simp [h0]
    have HE := Lib.hid (rotl_zero x n hx (by omega))
    clear hx hr h0
    go_enter Tryd.func36, Tryd.ntmps36
    go_wp2_with fail
    go_ret
    exact ⟨by rw [HE.out]; rfl, Keeps.refl _ _⟩
  · have e1 : ((r : Int) == 0) = false := by simp [h0]
    have hr1 : (r : Int) < 64 := by omega
    obtain ⟨m, hm⟩ : ∃ m, m = 64 - r := ⟨_, rfl⟩
    have d2 : IntKind.i64.wrap (64 - (r : Int)) = (m : Int) := by rw [IntKind.wrap_i64]; omega
    have b1 : (m : Int) < 64 := by omega
    obtain ⟨y, hy⟩ : ∃ y, y = rotl x n := ⟨_, rfl⟩
    have e2 : bits .or .u64 (IntKind.u64.wrap ((x : Int) * 2 ^ r)) ((x : Int) / 2 ^ m) = (y : Int) := by
      have e1 : IntKind.u64.wrap ((x : Int) * 2 ^ r) = ((x * 2 ^ r % 18446744073709551616 : Nat) : Int) := by rw [IntKind.wrap_u64]; simp
      have e2 : (x : Int) / 2 ^ m = ((x / 2 ^ m : Nat) : Int) := by simp
      rw [e1, e2, u64_or_nat _ _ (Nat.mod_lt _ (by decide)) (Nat.lt_of_le_of_lt (Nat.div_le_self _ _) hx), hy]
      unfold rotl
      rw [← hr, ← hm]
    have HY := Lib.hid hy
    clear hx hr h0 hm hy
    go_enter Tryd.func36, Tryd.ntmps36
    go_wp2_with fail
    refine seq_start (by kernel_rfl) (fun _ => True) 9 [0, 1, 2, 3, 4, 5, 6, 7, 8] rfl (trivial) (fun hS => ?_)
    refine seq_take (v := ?_) rfl (by kernel_rfl) (by kernel_rfl) (by kernel_rfl) (Or.inl ⟨by rfl, fun w' hSw => ?_⟩) (by assumption) ?_
    rotate_left
    · go_simp
      with_reducible rfl
    simp only [Act.put, List.setIfInBounds_toArray, List.set_cons_zero, List.set_cons_succ]
    refine seq_take (v := ?_) rfl (by kernel_rfl) (by kernel_rfl) (by kernel_rfl) (Or.inl ⟨by rfl, fun w' hSw => ?_⟩) (by assumption) ?_
    rotate_left
    · go_simp
      with_reducible rfl
    simp only [Act.put, List.setIfInBounds_toArray, List.set_cons_zero, List.set_cons_succ]
    refine seq_take (v := ?_) rfl (by kernel_rfl) (by kernel_rfl) (by kernel_rfl) (Or.inl ⟨by rfl, fun w' hSw => ?_⟩) (by assumption) ?_
    rotate_left
    · go_simp
      with_reducible rfl
    simp only [Act.put, List.setIfInBounds_toArray, List.set_cons_zero, List.set_cons_succ]
    refine seq_take (v := ?_) rfl (by kernel_rfl) (by kernel_rfl) (by kernel_rfl) (Or.inl ⟨by rfl, fun w' hSw => ?_⟩) (by assumption) ?_
    rotate_left
    · go_simp
      with_reducible rfl
    simp only [Act.put, List.setIfInBounds_toArray, List.set_cons_zero, List.set_cons_succ]
    refine seq_take (v := ?_) rfl (by kernel_rfl) (by kernel_rfl) (by kernel_rfl) (Or.inl ⟨by rfl, fun w' hSw => ?_⟩) (by assumption) ?_
    rotate_left
    · go_simp
      with_reducible rfl
    simp only [Act.put, List.setIfInBounds_toArray, List.set_cons_zero, List.set_cons_succ]
    refine seq_take (v := ?_) rfl (by kernel_rfl) (by kernel_rfl) (by kernel_rfl) (Or.inl ⟨by rfl, fun w' hSw => ?_⟩) (by assumption) ?_
    rotate_left
    · go_simp
      with_reducible rfl
    simp only [Act.put, List.setIfInBounds_toArray, List.set_cons_zero, List.set_cons_succ]
    refine seq_take (v := ?_) rfl (by kernel_rfl) (by kernel_rfl) (by kernel_rfl) (Or.inl ⟨by rfl, fun w' hSw => ?_⟩) (by assumption) ?_
    rotate_left
    · go_simp
      with_reducible rfl
    simp only [Act.put, List.setIfInBounds_toArray, List.set_cons_zero, List.set_cons_succ]
    refine seq_take (v := ?_) rfl (by kernel_rfl) (by kernel_rfl) (by kernel_rfl) (Or.inl ⟨by rfl, fun w' hSw => ?_⟩) (by assumption) ?_
    rotate_left
    · go_simp
      with_reducible rfl
    simp only [Act.put, List.setIfInBounds_toArray, List.set_cons_zero, List.set_cons_succ]
    refine seq_take (v := ?_) rfl (by kernel_rfl) (by kernel_rfl) (by kernel_rfl) (Or.inl ⟨by rfl, fun w' hSw => ?_⟩) (by assumption) ?_
    rotate_left
    · go_simp
      with_reducible rfl
    simp only [Act.put, List.setIfInBounds_toArray, List.set_cons_zero, List.set_cons_succ]
    refine seq_done (by kernel_rfl) ?_
    all_goals skip
    go_wp2_with fail
    go_ret
    exact ⟨by rw [← HY.out]; rfl, (Keeps.refl [] w).drew⟩
end Go.Proofs.YtomleanoofoejaaDoor
