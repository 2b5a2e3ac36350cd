/- All rounds, and a byte xored in: contracts. -/
import Derived.Test.YtomleanoofoejaaDoorKecRows
namespace Go.Proofs.YtomleanoofoejaaDoor
open Go.RowKit

/-- The rounds' numbers lie where the program's text lays them. -/
def Con (w : World) : Prop := ∀ i, i < 24 → w.cell? ⟨1, i, none⟩ = some (.int .u64 (ln rcs i : Int))
theorem Con.keeps {S : List Nat} {w w' : World} (h : Con w) (hk : Keeps S w w') (h0 : 1 ∉ S) : Con w' := fun i hi => hk.cell (h i hi) h0
theorem Con.lt {w : World} (h : Con w) : 1 < w.heap.size := block_lt_of_cell (h 0 (by decide))

set_option maxHeartbeats 8000000 in
theorem turn_any (g : Nat) (T : TypeId) (rest : List Value) (L : List Nat) (w : World) (h : St w g T rest L) (hL : Wf 25 L) (hc : Con w) (hg0 : g ≠ 1) :
    Calls Tryd.prog 34 #[.pointer (some ⟨g, 0, none⟩)] w fun e w' => e = .returned (.tuple #[]) ∧ St w' g T rest (turnK L) ∧ Keeps [g] w w' := by
  have INV := Lib.hid (show St w g T rest (turnTo L 0) ∧ Keeps [g] w w from ⟨h, Keeps.refl [g] w⟩)
  have HL := Lib.hid hL
  have HC := Lib.hid hc
  have HG := Lib.hid hg0
  clear h hL hc hg0
  go_enter Tryd.func34, Tryd.ntmps34
  go_wp2_with fail
  go_loopw [3] (fun i wr => ∃ k : Nat, k ≤ 24 ∧ i = .int .i64 (k : Nat) ∧ Hid (St wr g T rest (turnTo L k) ∧ Keeps [g] w wr)) (fun i _ => 24 - (intOf i).toNat)
  case atStart => exact ⟨0, by omega, rfl, INV.out⟩
  case round =>
    clear INV
    obtain ⟨k, hk, rfl, hinv⟩ := hrel
    have HM := Lib.hid (show Wf 25 (turnTo L k) from HL.out.turnTo k)
    by_cases hlt : k < 24
    · have hi : (k : Int) < 24 := by omega
      obtain ⟨M, hM⟩ : ∃ M, M = turnTo L k := ⟨_, rfl⟩
      rw [← hM] at hinv HM
      have HMM := Lib.hid hM
      clear hM
      go_wp2_with fail
      refine (columns_any g T rest M wr hinv.out.1 HM.out).mono ?_
      rintro e w1 ⟨rfl, h1, hk1⟩
      have H1 := Lib.hid (And.intro h1 hk1)
      clear h1 hk1
      go_wp2_with fail
      refine (walk_any g T rest (theta M) w1 H1.out.1 HM.out.theta).mono ?_
      rintro e w2 ⟨rfl, h2, hk2⟩
      have H2 := Lib.hid (And.intro h2 (H1.out.2.trans hk2 (fun t ht => .inl ht)))
      clear h2 hk2
      go_wp2_with fail
      refine (rows_any g T rest (rhoPi (theta M)) w2 H2.out.1 HM.out.theta.rhoPi).mono ?_
      rintro e w3 ⟨rfl, h3, hk3⟩
      have H3 := Lib.hid (And.intro h3 (hinv.out.2.trans (H2.out.2.trans hk3 (fun t ht => .inl ht)) (fun t ht => .inl ht)))
      clear h3 hk3 H1 H2
      have HW := Lib.hid (show Wf 25 (chi (rhoPi (theta M))) from HM.out.theta.rhoPi.chi)
      obtain ⟨X, hX⟩ : ∃ X, X = chi (rhoPi (theta M)) := ⟨_, rfl⟩
      rw [← hX] at H3 HW
      have HX := Lib.hid hX
      clear hX hinv
      have q0 : ∀ z : World, St z g T rest X ∧ Con z → z.cell? ⟨g, 0, none⟩ = some (.int .u64 (ln X 0 : Int)) := fun z hz => hz.1.cell 0 (by rw [HW.out.1]; decide)
      have q1 : ∀ z : World, St z g T rest X ∧ Con z → z.cell? ⟨1, k, none⟩ = some (.int .u64 (ln rcs k : Int)) := fun z hz => hz.2 k hlt
      have hx := u64_xor_nat (ln X 0) (ln rcs k) (HW.out.2 _) (rcs_wf.2 _)
      go_wp2_with fail
      refine seqz_start (by kernel_rfl) (fun z => St z g T rest X ∧ Con z) 10 11 [0, 1, 2, 3, 4, 5, 6, 7, 8, 9, 10] rfl (⟨H3.out.1, (HC.out.keeps H3.out.2 (by simp; exact HG.out.symm)).keeps (Keeps.refl [] w3).drew (by simp)⟩) (fun hS => ?_)
      refine seqz_take (v := ?_) rfl (by kernel_rfl) (by kernel_rfl) (by kernel_rfl) (by kernel_rfl) (by kernel_rfl) (by decide) (Or.inl ⟨by rfl, fun w' hSw => ?_⟩) (by assumption) ?_
      rotate_left
      · go_simp
        with_reducible rfl
      simp only [Act.put, List.setIfInBounds_toArray, List.set_cons_zero, List.set_cons_succ]
      refine seqz_take (v := ?_) rfl (by kernel_rfl) (by kernel_rfl) (by kernel_rfl) (by kernel_rfl) (by kernel_rfl) (by decide) (Or.inl ⟨by rfl, fun w' hSw => ?_⟩) (by assumption) ?_
      rotate_left
      · go_simp
        with_reducible rfl
      simp only [Act.put, List.setIfInBounds_toArray, List.set_cons_zero, List.set_cons_succ]
      refine seqz_take (v := ?_) rfl (by kernel_rfl) (by kernel_rfl) (by kernel_rfl) (by kernel_rfl) (by kernel_rfl) (by decide) (Or.inl ⟨by rfl, fun w' hSw => ?_⟩) (by assumption) ?_
      rotate_left
      · go_simp
        with_reducible rfl
      simp only [Act.put, List.setIfInBounds_toArray, List.set_cons_zero, List.set_cons_succ]
      refine seqz_take (v := ?_) rfl (by kernel_rfl) (by kernel_rfl) (by kernel_rfl) (by kernel_rfl) (by kernel_rfl) (by decide) (Or.inl ⟨by rfl, fun w' hSw => ?_⟩) (by assumption) ?_
      rotate_left
      · go_simp
        with_reducible rfl
      simp only [Act.put, List.setIfInBounds_toArray, List.set_cons_zero, List.set_cons_succ]
      refine seqz_take (v := ?_) rfl (by kernel_rfl) (by kernel_rfl) (by kernel_rfl) (by kernel_rfl) (by kernel_rfl) (by decide) (Or.inl ⟨by rfl, fun w' hSw => ?_⟩) (by assumption) ?_
      rotate_left
      · go_simp
        with_reducible rfl
      simp only [Act.put, List.setIfInBounds_toArray, List.set_cons_zero, List.set_cons_succ]
      refine seqz_take (v := ?_) rfl (by kernel_rfl) (by kernel_rfl) (by kernel_rfl) (by kernel_rfl) (by kernel_rfl) (by decide) (Or.inl ⟨by rfl, fun w' hSw => ?_⟩) (by assumption) ?_
      rotate_left
      · go_simp
        with_reducible rfl
      simp only [Act.put, List.setIfInBounds_toArray, List.set_cons_zero, List.set_cons_succ]
      refine seqz_take (v := ?_) rfl (by kernel_rfl) (by kernel_rfl) (by kernel_rfl) (by kernel_rfl) (by kernel_rfl) (by decide) (Or.inl ⟨by rfl, fun w' hSw => ?_⟩) (by assumption) ?_
      rotate_left
      · go_simp
        with_reducible rfl
      simp only [Act.put, List.setIfInBounds_toArray, List.set_cons_zero, List.set_cons_succ]
      refine seqz_take (v := ?_) rfl (by kernel_rfl) (by kernel_rfl) (by kernel_rfl) (by kernel_rfl) (by kernel_rfl) (by decide) (Or.inl ⟨by rfl, fun w' hSw => ?_⟩) (by assumption) ?_
      rotate_left
      · go_simp
        with_reducible rfl
      simp only [Act.put, List.setIfInBounds_toArray, List.set_cons_zero, List.set_cons_succ]
      refine seqz_take (v := ?_) rfl (by kernel_rfl) (by kernel_rfl) (by kernel_rfl) (by kernel_rfl) (by kernel_rfl) (by decide) (Or.inl ⟨by rfl, fun w' hSw => ?_⟩) (by assumption) ?_
      rotate_left
      · go_simp
        with_reducible rfl
      simp only [Act.put, List.setIfInBounds_toArray, List.set_cons_zero, List.set_cons_succ]
      refine seqz_take (v := ?_) rfl (by kernel_rfl) (by kernel_rfl) (by kernel_rfl) (by kernel_rfl) (by kernel_rfl) (by decide) (Or.inl ⟨by rfl, fun w' hSw => ?_⟩) (by assumption) ?_
      rotate_left
      · go_simp
        with_reducible rfl
      simp only [Act.put, List.setIfInBounds_toArray, List.set_cons_zero, List.set_cons_succ]
      refine seqz_last rfl (by kernel_rfl) (by rfl) (by kernel_rfl) ?_
      all_goals skip
      have HI := Lib.hid (show St w3.drew g T rest X ∧ Keeps [g] w w3.drew from ⟨H3.out.1, H3.out.2.drew⟩)
      clear hS q0 q1 H3
      generalize w3.drew = V at HI ⊢
      have qa := HI.out.1.cell 0 (by rw [HW.out.1]; decide)
      have fa := HI.out.1.frozen 0
      have HSET := Lib.hid (HI.out.1.set 0 (ln X 0 ^^^ ln rcs k) (by rw [HW.out.1]; decide))
      go_wp2_with fail
      go_roundw
      case rel =>
        refine ⟨k + 1, by omega, by go_num, ?_, HI.out.2.trans (Keeps.at_ _) (fun t ht => .inl ht)⟩
        rw [turnTo_succ]
        unfold roundK iota
        rw [← HMM.out, ← HX.out]
        exact HSET.out
      case measure => simp [intOf]; omega
    · have hi : ¬ (k : Int) < 24 := by omega
      have hk24 : k = 24 := by omega
      have HK := Lib.hid hk24
      clear hk24 hlt hk
      go_wp2_with fail
      go_end0
      have := hinv.out
      rw [HK.out] at this
      exact ⟨rfl, this.1, this.2⟩
end Go.Proofs.YtomleanoofoejaaDoor
