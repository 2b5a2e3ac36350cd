/- A byte xored in: a contract. -/
import Derived.Test.YtomleanoofoejaaDoorKecTurn
namespace Go.Proofs.YtomleanoofoejaaDoor
open Go.RowKit

def xorB (L : List Nat) (at' c : Nat) : List Nat := L.set (at' / 8) (ln L (at' / 8) ^^^ c * 2 ^ (8 * (at' % 8)))
theorem shl_lt (c m : Nat) (hc : c < 256) (hm : m < 8) : c * 2 ^ (8 * m) < 18446744073709551616 := by
  have h1 : 2 ^ (8 * m) ≤ 2 ^ 56 := Nat.pow_le_pow_right (by decide) (by omega)
  have h2 : c * 2 ^ (8 * m) ≤ 255 * 2 ^ 56 := Nat.mul_le_mul (by omega) h1
  exact Nat.lt_of_le_of_lt h2 (by decide)
theorem Wf.xorB {L : List Nat} (h : Wf 25 L) (at' c : Nat) (hc : c < 256) : Wf 25 (xorB L at' c) := h.set _ _ (xor_lt _ _ (h.2 _) (shl_lt c _ hc (Nat.mod_lt _ (by decide))))

set_option maxHeartbeats 8000000 in
theorem xor_any (g : Nat) (T : TypeId) (rest : List Value) (L : List Nat) (w : World) (h : St w g T rest L) (hL : Wf 25 L) (at' c : Nat) (hat : at' < 200) (hc : c < 256) :
    Calls Tryd.prog 33 #[.pointer (some ⟨g, 0, none⟩), .int .i64 at', .int .u8 c] w fun e w' => e = .returned (.tuple #[]) ∧ St w' g T rest (xorB L at' c) ∧ Keeps [g] w w' := by
  have H := Lib.hid h
  have HL := Lib.hid hL
  obtain ⟨k, hk⟩ : ∃ k, k = at' / 8 := ⟨_, rfl⟩
  obtain ⟨m, hm⟩ : ∃ m, m = at' % 8 := ⟨_, rfl⟩
  obtain ⟨s, hs⟩ : ∃ s, s = 8 * m := ⟨_, rfl⟩
  obtain ⟨v, hv⟩ : ∃ v, v = c * 2 ^ s := ⟨_, rfl⟩
  have hvl : v < 18446744073709551616 := by rw [hv, hs]; exact shl_lt c m hc (by omega)
  have d1 : (at' : Int).tdiv 8 = (k : Int) := by rw [Int.tdiv_eq_ediv_of_nonneg (by omega)]; omega
  have d2 : IntKind.i64.wrap (k : Int) = (k : Int) := by rw [IntKind.wrap_i64]; omega
  have d3 : (at' : Int).tmod 8 = (m : Int) := by rw [Int.tmod_eq_emod_of_nonneg (by omega)]; omega
  have d4 : IntKind.i64.wrap (8 * (m : Int)) = (s : Int) := by rw [IntKind.wrap_i64]; omega
  have d5 : IntKind.u64.wrap (c : Int) = (c : Int) := by rw [IntKind.wrap_u64]; omega
  have d6 : IntKind.u64.wrap ((c : Int) * 2 ^ s) = (v : Int) := by
    rw [show (c : Int) * 2 ^ s = (v : Int) by rw [hv]; simp, IntKind.wrap_u64]; omega
  have b1 : (k : Int) < 25 := by omega
  have b2 : (s : Int) < 64 := by omega
  have q0 : ∀ z : World, St z g T rest L → z.cell? ⟨g, k, none⟩ = some (.int .u64 (ln L k : Int)) := fun z hz => hz.cell k (by rw [HL.out.1]; omega)
  have hx := u64_xor_nat (ln L k) v (HL.out.2 _) hvl
  have HK := Lib.hid (show L.set k (ln L k ^^^ v) = xorB L at' c by unfold xorB; rw [hv, hs, hm, hk])
  have HKL := Lib.hid (show k < L.length by rw [HL.out.1]; omega)
  clear h hL hk hm hs hv hvl hat hc
  go_enter Tryd.func33, Tryd.ntmps33
  go_wp2_with fail
  refine seqz_start (by kernel_rfl) (fun z => St z g T rest L) 15 16 [0, 1, 2, 3, 4, 5, 6, 7, 8, 9, 10, 11, 12, 13, 14, 15] rfl (H.out) (fun hS => ?_)
  refine seqz_take (v := ?_) rfl (by kernel_rfl) (by kernel_rfl) (by kernel_rfl) (by kernel_rfl) (by kernel_rfl) (by decide) (Or.inl ⟨by rfl, fun w' hSw => ?_⟩) (by assumption) ?_
  rotate_left
  · go_simp
    with_reducible rfl
  simp only [Act.put, List.setIfInBounds_toArray, List.set_cons_zero, List.set_cons_succ]
  refine seqz_take (v := ?_) rfl (by kernel_rfl) (by kernel_rfl) (by kernel_rfl) (by kernel_rfl) (by kernel_rfl) (by decide) (Or.inl ⟨by rfl, fun w' hSw => ?_⟩) (by assumption) ?_
  rotate_left
  · go_simp
    with_reducible rfl
  simp only [Act.put, List.setIfInBounds_toArray, List.set_cons_zero, List.set_cons_succ]
  refine seqz_take (v := ?_) rfl (by kernel_rfl) (by kernel_rfl) (by kernel_rfl) (by kernel_rfl) (by kernel_rfl) (by decide) (Or.inl ⟨by rfl, fun w' hSw => ?_⟩) (by assumption) ?_
  rotate_left
  · go_simp
    with_reducible rfl
  simp only [Act.put, List.setIfInBounds_toArray, List.set_cons_zero, List.set_cons_succ]
  refine seqz_take (v := ?_) rfl (by kernel_rfl) (by kernel_rfl) (by kernel_rfl) (by kernel_rfl) (by kernel_rfl) (by decide) (Or.inl ⟨by rfl, fun w' hSw => ?_⟩) (by assumption) ?_
  rotate_left
  · go_simp
    with_reducible rfl
  simp only [Act.put, List.setIfInBounds_toArray, List.set_cons_zero, List.set_cons_succ]
  refine seqz_take (v := ?_) rfl (by kernel_rfl) (by kernel_rfl) (by kernel_rfl) (by kernel_rfl) (by kernel_rfl) (by decide) (Or.inl ⟨by rfl, fun w' hSw => ?_⟩) (by assumption) ?_
  rotate_left
  · go_simp
    with_reducible rfl
  simp only [Act.put, List.setIfInBounds_toArray, List.set_cons_zero, List.set_cons_succ]
  refine seqz_take (v := ?_) rfl (by kernel_rfl) (by kernel_rfl) (by kernel_rfl) (by kernel_rfl) (by kernel_rfl) (by decide) (Or.inl ⟨by rfl, fun w' hSw => ?_⟩) (by assumption) ?_
  rotate_left
  · go_simp
    with_reducible rfl
  simp only [Act.put, List.setIfInBounds_toArray, List.set_cons_zero, List.set_cons_succ]
  refine seqz_take (v := ?_) rfl (by kernel_rfl) (by kernel_rfl) (by kernel_rfl) (by kernel_rfl) (by kernel_rfl) (by decide) (Or.inl ⟨by rfl, fun w' hSw => ?_⟩) (by assumption) ?_
  rotate_left
  · go_simp
    with_reducible rfl
  simp only [Act.put, List.setIfInBounds_toArray, List.set_cons_zero, List.set_cons_succ]
  refine seqz_take (v := ?_) rfl (by kernel_rfl) (by kernel_rfl) (by kernel_rfl) (by kernel_rfl) (by kernel_rfl) (by decide) (Or.inl ⟨by rfl, fun w' hSw => ?_⟩) (by assumption) ?_
  rotate_left
  · go_simp
    with_reducible rfl
  simp only [Act.put, List.setIfInBounds_toArray, List.set_cons_zero, List.set_cons_succ]
  refine seqz_take (v := ?_) rfl (by kernel_rfl) (by kernel_rfl) (by kernel_rfl) (by kernel_rfl) (by kernel_rfl) (by decide) (Or.inl ⟨by rfl, fun w' hSw => ?_⟩) (by assumption) ?_
  rotate_left
  · go_simp
    with_reducible rfl
  simp only [Act.put, List.setIfInBounds_toArray, List.set_cons_zero, List.set_cons_succ]
  refine seqz_take (v := ?_) rfl (by kernel_rfl) (by kernel_rfl) (by kernel_rfl) (by kernel_rfl) (by kernel_rfl) (by decide) (Or.inl ⟨by rfl, fun w' hSw => ?_⟩) (by assumption) ?_
  rotate_left
  · go_simp
    with_reducible rfl
  simp only [Act.put, List.setIfInBounds_toArray, List.set_cons_zero, List.set_cons_succ]
  refine seqz_take (v := ?_) rfl (by kernel_rfl) (by kernel_rfl) (by kernel_rfl) (by kernel_rfl) (by kernel_rfl) (by decide) (Or.inl ⟨by rfl, fun w' hSw => ?_⟩) (by assumption) ?_
  rotate_left
  · go_simp
    with_reducible rfl
  simp only [Act.put, List.setIfInBounds_toArray, List.set_cons_zero, List.set_cons_succ]
  refine seqz_take (v := ?_) rfl (by kernel_rfl) (by kernel_rfl) (by kernel_rfl) (by kernel_rfl) (by kernel_rfl) (by decide) (Or.inl ⟨by rfl, fun w' hSw => ?_⟩) (by assumption) ?_
  rotate_left
  · go_simp
    with_reducible rfl
  simp only [Act.put, List.setIfInBounds_toArray, List.set_cons_zero, List.set_cons_succ]
  refine seqz_take (v := ?_) rfl (by kernel_rfl) (by kernel_rfl) (by kernel_rfl) (by kernel_rfl) (by kernel_rfl) (by decide) (Or.inl ⟨by rfl, fun w' hSw => ?_⟩) (by assumption) ?_
  rotate_left
  · go_simp
    with_reducible rfl
  simp only [Act.put, List.setIfInBounds_toArray, List.set_cons_zero, List.set_cons_succ]
  refine seqz_take (v := ?_) rfl (by kernel_rfl) (by kernel_rfl) (by kernel_rfl) (by kernel_rfl) (by kernel_rfl) (by decide) (Or.inl ⟨by rfl, fun w' hSw => ?_⟩) (by assumption) ?_
  rotate_left
  · go_simp
    with_reducible rfl
  simp only [Act.put, List.setIfInBounds_toArray, List.set_cons_zero, List.set_cons_succ]
  refine seqz_take (v := ?_) rfl (by kernel_rfl) (by kernel_rfl) (by kernel_rfl) (by kernel_rfl) (by kernel_rfl) (by decide) (Or.inl ⟨by rfl, fun w' hSw => ?_⟩) (by assumption) ?_
  rotate_left
  · go_simp
    with_reducible rfl
  simp only [Act.put, List.setIfInBounds_toArray, List.set_cons_zero, List.set_cons_succ]
  refine seqz_last rfl (by kernel_rfl) (by rfl) (by kernel_rfl) ?_
  all_goals skip
  have HI := Lib.hid (show St w.drew g T rest L ∧ Keeps [g] w w.drew from ⟨H.out, (Keeps.refl [g] w).drew⟩)
  clear hS q0 d1 d2 d3 d4 d5 d6
  generalize w.drew = V at HI ⊢
  have qa := HI.out.1.cell k HKL.out
  have fa := HI.out.1.frozen k
  have HSET := Lib.hid (HI.out.1.set k (ln L k ^^^ v) HKL.out)
  go_wp2_with fail
  go_end0
  exact ⟨rfl, by rw [← HK.out]; exact HSET.out, HI.out.2.trans (Keeps.at_ _) (fun t ht => .inl ht)⟩
end Go.Proofs.YtomleanoofoejaaDoor
