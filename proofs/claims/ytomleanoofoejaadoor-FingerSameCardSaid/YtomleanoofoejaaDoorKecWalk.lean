/- The lanes' walk: a contract. -/
import Derived.Test.YtomleanoofoejaaDoorKecCol
namespace Go.Proofs.YtomleanoofoejaaDoor
open Go.RowKit

set_option maxHeartbeats 8000000 in
theorem walk_any (g : Nat) (T : TypeId) (rest : List Value) (L : List Nat) (w : World) (h : St w g T rest L) (hL : Wf 25 L) :
    Calls Tryd.prog 41 #[.pointer (some ⟨g, 0, none⟩)] w fun e w' => e = .returned (.tuple #[]) ∧ St w' g T rest (rhoPi L) ∧ Keeps [g] w w' := by
  have H := Lib.hid h
  have HL := Lib.hid hL
  have q0 : ∀ x : World, St x g T rest L → x.cell? ⟨g, 1, none⟩ = some (.int .u64 (ln L 1 : Int)) := fun x hx => hx.cell 1 (by rw [HL.out.1]; decide)
  clear h hL
  go_enter Tryd.func41, Tryd.ntmps41
  go_wp2_with fail
  refine seq_start (by kernel_rfl) (fun x => St x g T rest L) 7 [0, 1, 2, 3, 4, 5, 6] rfl (H.out) (fun hS => ?_)
  refine seq_take (v := ?_) rfl (by kernel_rfl) (by kernel_rfl) (by kernel_rfl) (Or.inl ⟨by rfl, fun w' hSw => ?_⟩) (by assumption) ?_
  rotate_left
  · go_simp
    with_reducible rfl
  simp only [Act.put, List.setIfInBounds_toArray, List.set_cons_zero, List.set_cons_succ]
  refine seq_take (v := ?_) rfl (by kernel_rfl) (by kernel_rfl) (by kernel_rfl) (Or.inl ⟨by rfl, fun w' hSw => ?_⟩) (by assumption) ?_
  rotate_left
  · go_simp
    with_reducible rfl
  simp only [Act.put, List.setIfInBounds_toArray, List.set_cons_zero, List.set_cons_succ]
  refine seq_take (v := ?_) rfl (by kernel_rfl) (by kernel_rfl) (by kernel_rfl) (Or.inl ⟨by rfl, fun w' hSw => ?_⟩) (by assumption) ?_
  rotate_left
  · go_simp
    with_reducible rfl
  simp only [Act.put, List.setIfInBounds_toArray, List.set_cons_zero, List.set_cons_succ]
  refine seq_take (v := ?_) rfl (by kernel_rfl) (by kernel_rfl) (by kernel_rfl) (Or.inl ⟨by rfl, fun w' hSw => ?_⟩) (by assumption) ?_
  rotate_left
  · go_simp
    with_reducible rfl
  simp only [Act.put, List.setIfInBounds_toArray, List.set_cons_zero, List.set_cons_succ]
  refine seq_take (v := ?_) rfl (by kernel_rfl) (by kernel_rfl) (by kernel_rfl) (Or.inl ⟨by rfl, fun w' hSw => ?_⟩) (by assumption) ?_
  rotate_left
  · go_simp
    with_reducible rfl
  simp only [Act.put, List.setIfInBounds_toArray, List.set_cons_zero, List.set_cons_succ]
  refine seq_take (v := ?_) rfl (by kernel_rfl) (by kernel_rfl) (by kernel_rfl) (Or.inl ⟨by rfl, fun w' hSw => ?_⟩) (by assumption) ?_
  rotate_left
  · go_simp
    with_reducible rfl
  simp only [Act.put, List.setIfInBounds_toArray, List.set_cons_zero, List.set_cons_succ]
  refine seq_take (v := ?_) rfl (by kernel_rfl) (by kernel_rfl) (by kernel_rfl) (Or.inl ⟨by rfl, fun w' hSw => ?_⟩) (by assumption) ?_
  rotate_left
  · go_simp
    with_reducible rfl
  simp only [Act.put, List.setIfInBounds_toArray, List.set_cons_zero, List.set_cons_succ]
  refine seq_done (by kernel_rfl) ?_
  all_goals skip
  have INV := Lib.hid (show St w.drew g T rest (wkTo L 0).L ∧ Keeps [g] w w.drew from ⟨H.out, (Keeps.refl [g] w).drew⟩)
  clear q0 hS
  generalize w.drew = V at INV ⊢
  go_wp2_with fail
  go_loopw [2, 3, 4, 5] (fun x y l i wr => ∃ j : Nat, j ≤ 24 ∧ i = .int .i64 (j + 1 : Nat) ∧ ∃ s, Hid (s = wkTo L j) ∧ x = .int .i64 s.x ∧ y = .int .i64 s.y ∧ l = .int .u64 s.lane ∧ Hid (St wr g T rest s.L ∧ Keeps [g] w wr)) (fun _ _ _ i _ => 25 - (intOf i).toNat)
  case atStart => exact ⟨0, by omega, rfl, ⟨1, 0, ln L 1, L⟩, rfl, rfl, rfl, rfl, INV.out⟩
  case round =>
    clear INV
    obtain ⟨j, hj, rfl, s, hs, rfl, rfl, rfl, hinv⟩ := hrel
    have HOK := Lib.hid (show s.Ok by rw [hs.out]; exact Wk.ok HL.out j)
    by_cases hlt : j < 24
    · obtain ⟨t, ht⟩ : ∃ t, t = j + 1 := ⟨_, rfl⟩
      rw [← ht]
      have hi : (t : Int) ≤ 24 := by omega
      have hx5 : (s.x : Int) < 5 := by have := HOK.out.x; omega
      have hy5 : (s.y : Int) < 5 := by have := HOK.out.y; omega
      obtain ⟨y2, hy2⟩ : ∃ y, y = (2 * s.x + 3 * s.y) % 5 := ⟨_, rfl⟩
      obtain ⟨at', hat⟩ : ∃ a, a = 5 * y2 + s.y := ⟨_, rfl⟩
      obtain ⟨t1, ht1⟩ : ∃ a, a = t + 1 := ⟨_, rfl⟩
      obtain ⟨p, hp⟩ : ∃ a, a = t * t1 := ⟨_, rfl⟩
      obtain ⟨k, hk⟩ : ∃ a, a = p / 2 := ⟨_, rfl⟩
      have hp600 : p ≤ 600 := by rw [hp]; exact Nat.mul_le_mul (show t ≤ 24 by omega) (show t1 ≤ 25 by omega)
      have ry : (2 * (s.x : Int) + 3 * (s.y : Int)) % 5 = (y2 : Int) := by omega
      have ra : 5 * (y2 : Int) + (s.y : Int) = (at' : Int) := by omega
      have hy25 : (y2 : Int) < 5 := by omega
      have hat25 : (at' : Int) < 25 := by omega
      have hk300 : k ≤ 300 := by omega
      have hrot : rotl s.lane k = rotl s.lane ((j + 1) * (j + 2) / 2) := by rw [hk, hp, ht1, ht]
      have HALL := Lib.hid (And.intro hy2 (And.intro hat (And.intro hrot ht)))
      have hatl : at' < s.L.length := by rw [HOK.out.L.1]; omega
      have HATL := Lib.hid hatl
      have Rrt := Lib.hid (show IntKind.i64.wrap ((t : Int) + 1) = (t1 : Int) by rw [IntKind.wrap_i64]; omega)
      have Rrp := Lib.hid (show IntKind.i64.wrap ((t : Int) * (t1 : Int)) = (p : Int) by rw [← Int.natCast_mul, ← hp, IntKind.wrap_i64]; omega)
      have Rrk := Lib.hid (show (p : Int).tdiv 2 = (k : Int) by rw [Int.tdiv_eq_ediv_of_nonneg (by omega)]; omega)
      have RW := Lib.hid (show IntKind.i64.wrap (k : Int) = (k : Int) by rw [IntKind.wrap_i64]; omega)
      clear hy2 hat ht1 hp hk hrot hp600 hatl ht hlt hj
      go_wp2_with fail
      have rt := Rrt.out
      have rp := Rrp.out
      have rk := Rrk.out
      have rw_ := RW.out
      have qa : ∀ x : World, St x g T rest s.L → x.cell? ⟨g, at', none⟩ = some (.int .u64 (ln s.L at' : Int)) := fun x hx => hx.cell at' HATL.out
      refine seqz_start (by kernel_rfl) (fun x => St x g T rest s.L) 17 18 [0, 1, 2, 3, 4, 5, 6, 7, 8, 9, 10, 11, 12, 13, 14, 15, 16, 17] rfl (hinv.out.1) (fun hS => ?_)
      have HI := Lib.hid (show St wr.drew g T rest s.L ∧ Keeps [g] w wr.drew from ⟨hinv.out.1, hinv.out.2.drew⟩)
      clear hinv
      generalize wr.drew = V at HI hS ⊢
      refine seqz_take (v := ?_) rfl (by kernel_rfl) (by kernel_rfl) (by kernel_rfl) (by kernel_rfl) (by kernel_rfl) (by decide) (Or.inl ⟨by rfl, fun w' hSw => ?_⟩) (by assumption) ?_
      rotate_left
      · go_simp
        with_reducible rfl
      simp only [Act.put, List.setIfInBounds_toArray, List.set_cons_zero, List.set_cons_succ]
      refine seqz_take (v := ?_) rfl (by kernel_rfl) (by kernel_rfl) (by kernel_rfl) (by kernel_rfl) (by kernel_rfl) (by decide) (Or.inl ⟨by rfl, fun w' hSw => ?_⟩) (by assumption) ?_
      rotate_left
      · go_simp
        with_reducible rfl
      simp only [Act.put, List.setIfInBounds_toArray, List.set_cons_zero, List.set_cons_succ]
      refine seqz_take (v := ?_) rfl (by kernel_rfl) (by kernel_rfl) (by kernel_rfl) (by kernel_rfl) (by kernel_rfl) (by decide) (Or.inl ⟨by rfl, fun w' hSw => ?_⟩) (by assumption) ?_
      rotate_left
      · go_simp
        with_reducible rfl
      simp only [Act.put, List.setIfInBounds_toArray, List.set_cons_zero, List.set_cons_succ]
      refine seqz_take (v := ?_) rfl (by kernel_rfl) (by kernel_rfl) (by kernel_rfl) (by kernel_rfl) (by kernel_rfl) (by decide) (Or.inl ⟨by rfl, fun w' hSw => ?_⟩) (by assumption) ?_
      rotate_left
      · go_simp
        with_reducible rfl
      simp only [Act.put, List.setIfInBounds_toArray, List.set_cons_zero, List.set_cons_succ]
      refine seqz_take (v := ?_) rfl (by kernel_rfl) (by kernel_rfl) (by kernel_rfl) (by kernel_rfl) (by kernel_rfl) (by decide) (Or.inl ⟨by rfl, fun w' hSw => ?_⟩) (by assumption) ?_
      rotate_left
      · go_simp
        with_reducible rfl
      simp only [Act.put, List.setIfInBounds_toArray, List.set_cons_zero, List.set_cons_succ]
      refine seqz_take (v := ?_) rfl (by kernel_rfl) (by kernel_rfl) (by kernel_rfl) (by kernel_rfl) (by kernel_rfl) (by decide) (Or.inl ⟨by rfl, fun w' hSw => ?_⟩) (by assumption) ?_
      rotate_left
      · go_simp
        with_reducible rfl
      simp only [Act.put, List.setIfInBounds_toArray, List.set_cons_zero, List.set_cons_succ]
      refine seqz_take (v := ?_) rfl (by kernel_rfl) (by kernel_rfl) (by kernel_rfl) (by kernel_rfl) (by kernel_rfl) (by decide) (Or.inl ⟨by rfl, fun w' hSw => ?_⟩) (by assumption) ?_
      rotate_left
      · go_simp
        with_reducible rfl
      simp only [Act.put, List.setIfInBounds_toArray, List.set_cons_zero, List.set_cons_succ]
      refine seqz_take (v := ?_) rfl (by kernel_rfl) (by kernel_rfl) (by kernel_rfl) (by kernel_rfl) (by kernel_rfl) (by decide) (Or.inl ⟨by rfl, fun w' hSw => ?_⟩) (by assumption) ?_
      rotate_left
      · go_simp
        with_reducible rfl
      simp only [Act.put, List.setIfInBounds_toArray, List.set_cons_zero, List.set_cons_succ]
      refine seqz_take (v := ?_) rfl (by kernel_rfl) (by kernel_rfl) (by kernel_rfl) (by kernel_rfl) (by kernel_rfl) (by decide) (Or.inl ⟨by rfl, fun w' hSw => ?_⟩) (by assumption) ?_
      rotate_left
      · go_simp
        with_reducible rfl
      simp only [Act.put, List.setIfInBounds_toArray, List.set_cons_zero, List.set_cons_succ]
      refine seqz_take (v := ?_) rfl (by kernel_rfl) (by kernel_rfl) (by kernel_rfl) (by kernel_rfl) (by kernel_rfl) (by decide) (Or.inl ⟨by rfl, fun w' hSw => ?_⟩) (by assumption) ?_
      rotate_left
      · go_simp
        with_reducible rfl
      simp only [Act.put, List.setIfInBounds_toArray, List.set_cons_zero, List.set_cons_succ]
      refine seqz_take (v := ?_) rfl (by kernel_rfl) (by kernel_rfl) (by kernel_rfl) (by kernel_rfl) (by kernel_rfl) (by decide) (Or.inl ⟨by rfl, fun w' hSw => ?_⟩) (by assumption) ?_
      rotate_left
      · go_simp
        with_reducible rfl
      simp only [Act.put, List.setIfInBounds_toArray, List.set_cons_zero, List.set_cons_succ]
      refine seqz_take (v := ?_) rfl (by kernel_rfl) (by kernel_rfl) (by kernel_rfl) (by kernel_rfl) (by kernel_rfl) (by decide) (Or.inl ⟨by rfl, fun w' hSw => ?_⟩) (by assumption) ?_
      rotate_left
      · go_simp
        with_reducible rfl
      simp only [Act.put, List.setIfInBounds_toArray, List.set_cons_zero, List.set_cons_succ]
      refine seqz_take (v := ?_) rfl (by kernel_rfl) (by kernel_rfl) (by kernel_rfl) (by kernel_rfl) (by kernel_rfl) (by decide) (Or.inl ⟨by rfl, fun w' hSw => ?_⟩) (by assumption) ?_
      rotate_left
      · go_simp
        with_reducible rfl
      simp only [Act.put, List.setIfInBounds_toArray, List.set_cons_zero, List.set_cons_succ]
      iterate 2 (refine seq_later ?_; simp only [List.cons_append, List.nil_append])
      refine seqz_take (v := ?_) rfl (by kernel_rfl) (by kernel_rfl) (by kernel_rfl) (by kernel_rfl) (by kernel_rfl) (by decide) (Or.inl ⟨by rfl, fun w' hSw => ?_⟩) (by assumption) ?_
      rotate_left
      · go_simp
        with_reducible rfl
      simp only [Act.put, List.setIfInBounds_toArray, List.set_cons_zero, List.set_cons_succ]
      iterate 2 (refine seq_later ?_; simp only [List.cons_append, List.nil_append])
      refine seqz_do rfl (by kernel_rfl) (by rfl) (fun K hK => ?_)
      go_simp
      refine (rot_any _ k HOK.out.lane hk300 V).mono ?_
      rintro e w2 ⟨rfl, rfl⟩
      refine hK.out (fun x => St x g T rest s.L) _ _ (fun x h => h) HI.out.1 (fun hS => ?_)
      refine seqz_take (v := ?_) rfl (by kernel_rfl) (by kernel_rfl) (by kernel_rfl) (by kernel_rfl) (by kernel_rfl) (by decide) (Or.inl ⟨by rfl, fun w' hSw => ?_⟩) (by assumption) ?_
      rotate_left
      · go_simp
        with_reducible rfl
      simp only [Act.put, List.setIfInBounds_toArray, List.set_cons_zero, List.set_cons_succ]
      refine seqz_take (v := ?_) rfl (by kernel_rfl) (by kernel_rfl) (by kernel_rfl) (by kernel_rfl) (by kernel_rfl) (by decide) (Or.inl ⟨by rfl, fun w' hSw => ?_⟩) (by assumption) ?_
      rotate_left
      · go_simp
        with_reducible rfl
      simp only [Act.put, List.setIfInBounds_toArray, List.set_cons_zero, List.set_cons_succ]
      refine seqz_last rfl (by kernel_rfl) (by rfl) (by kernel_rfl) ?_
      all_goals skip
      clear rt rp rk rw_ qa hS
      have fa := HI.out.1.frozen at'
      have HSET := Lib.hid (HI.out.1.set at' (rotl s.lane k) HATL.out)
      have qa := HI.out.1.cell at' HATL.out
      go_wp2_with fail
      obtain ⟨h1, h2, h3, h4⟩ := HALL.out
      go_roundw
      case rel =>
        refine ⟨t, by omega, by go_num, wkStep s j, ?_, rfl, ?_, ?_, ?_, HI.out.2.trans (Keeps.at_ _) (fun t ht => .inl ht)⟩
        · show _ = _
          rw [h4, wkTo_succ, hs.out]
        · show Value.int .i64 (y2 : Int) = .int .i64 (((2 * s.x + 3 * s.y) % 5 : Nat) : Int)
          rw [h1]
        · show Value.int .u64 ((ln s.L at' : Nat) : Int) = .int .u64 ((ln s.L (5 * ((2 * s.x + 3 * s.y) % 5) + s.y) : Nat) : Int)
          rw [h2, h1]
        · show St _ _ _ _ (s.L.set (5 * ((2 * s.x + 3 * s.y) % 5) + s.y) (rotl s.lane ((j + 1) * (j + 2) / 2)))
          rw [← h3, ← h1, ← h2]
          exact HSET.out
      case measure => simp [intOf]; omega
    · have hi : ¬ (j : Int) + 1 ≤ 24 := by omega
      go_wp2_with fail
      go_end0
      have hj24 : j = 24 := by omega
      have := hinv.out
      rw [hs.out, hj24] at this
      exact ⟨rfl, this.1, this.2⟩
end Go.Proofs.YtomleanoofoejaaDoor
