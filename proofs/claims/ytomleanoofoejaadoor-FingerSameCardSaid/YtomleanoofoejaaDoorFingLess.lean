/- The document's order of fingerprints: a contract; and what an order of texts is. -/
import Derived.Test.YtomleanoofoejaaDoorFing
namespace Go.Proofs.YtomleanoofoejaaDoor
open Go.RowKit

theorem bl_same : ∀ x : List UInt8, Op.bytesLess x x = false
  | [] => rfl
  | a :: x => by unfold Op.bytesLess; simp [bl_same x]
theorem bl_diff : ∀ (x y : List UInt8) (k : Nat) (hx : k < x.length) (hy : k < y.length), x.take k = y.take k → x[k] ≠ y[k] → Op.bytesLess x y = decide (x[k] < y[k])
  | a :: x, b :: y, 0, _, _, _, h => by
    unfold Op.bytesLess
    have h' : ¬ a = b := h
    simp [h']
  | a :: x, b :: y, k + 1, hx, hy, ht, h => by
    simp only [List.take_succ_cons, List.cons.injEq] at ht
    unfold Op.bytesLess
    have ih := bl_diff x y k (by simpa using hx) (by simpa using hy) ht.2 (by simpa using h)
    simp [ht.1, ih]
theorem bl_not_both : ∀ x y : List UInt8, (Op.bytesLess x y && Op.bytesLess y x) = false
  | [], [] => rfl
  | [], _ :: _ => by simp [Op.bytesLess]
  | _ :: _, [] => by simp [Op.bytesLess]
  | a :: x, b :: y => by
    have ih := bl_not_both x y
    unfold Op.bytesLess
    rw [Bool.eq_false_iff]
    intro h
    simp only [Bool.and_eq_true, Bool.or_eq_true, decide_eq_true_eq, beq_iff_eq] at h
    rcases h with ⟨h1 | ⟨h1, h2⟩, h3 | ⟨h3, h4⟩⟩
    · exact absurd h1 (UInt8.lt_asymm h3)
    · subst h3; exact absurd h1 (UInt8.lt_irrefl _)
    · subst h1; exact absurd h3 (UInt8.lt_irrefl _)
    · rw [h2, h4] at ih; simp at ih
theorem bl_one : ∀ x y : List UInt8, x ≠ y → (Op.bytesLess x y || Op.bytesLess y x) = true
  | [], [], h => absurd rfl h
  | [], _ :: _, _ => by simp [Op.bytesLess]
  | _ :: _, [], _ => by simp [Op.bytesLess]
  | a :: x, b :: y, h => by
    unfold Op.bytesLess
    by_cases hab : a = b
    · subst hab
      have ih := bl_one x y (fun e => h (by rw [e]))
      simpa using ih
    · have h1 : a < b ∨ b < a := by
        rcases Nat.lt_or_gt_of_ne (fun e => hab (UInt8.toNat_inj.1 e) : a.toNat ≠ b.toNat) with h1 | h1
        · exact .inl (UInt8.lt_iff_toNat_lt.2 h1)
        · exact .inr (UInt8.lt_iff_toNat_lt.2 h1)
      rcases h1 with h1 | h1 <;> simp [h1]

set_option maxHeartbeats 1000000 in
theorem refless_any (x y : List UInt8) (w : World) (hx : x.length = 32) (hy : y.length = 32) :
    Calls Tryd.prog 11 #[.agg (encB x).toArray, .agg (encB y).toArray] w fun e w' => e = .returned (.bool (Op.bytesLess x y)) ∧ Keeps [] w w' := by
  have HX := Lib.hid hx
  have HY := Lib.hid hy
  obtain ⟨xs, hxs⟩ : ∃ xs, xs = (encB x).toArray := ⟨_, rfl⟩
  obtain ⟨ys, hys⟩ : ∃ ys, ys = (encB y).toArray := ⟨_, rfl⟩
  rw [← hxs, ← hys]
  have HXS := Lib.hid hxs
  have HYS := Lib.hid hys
  clear hx hy hxs hys
  go_enter Tryd.func11, Tryd.ntmps11
  go_wp2_with fail
  have INV := Lib.hid (show Two 25 w.heap.size (w.heap.size + 1) (encB x) (encB y) ((w.alloc (.cells xs 25)).alloc (.cells ys 25)) ∧ Keeps [] w ((w.alloc (.cells xs 25)).alloc (.cells ys 25)) from by
    rw [HXS.out, HYS.out]; exact ⟨⟨heap_alloc2_old _ _ _, heap_alloc2_new _ _ _⟩, ((Keeps.refl [] w).alloc _).alloc _⟩)
  go_loopw [5] (fun i wr => ∃ k : Nat, k ≤ 32 ∧ i = .int .i64 k ∧ Hid (x.take k = y.take k) ∧ Hid (Two 25 w.heap.size (w.heap.size + 1) (encB x) (encB y) wr ∧ Keeps [] w wr)) (fun i _ => 32 - (intOf i).toNat)
  case atStart => exact ⟨0, by omega, rfl, rfl, INV.out⟩
  case round =>
    clear INV
    obtain ⟨k, hk, rfl, hxy, hinv⟩ := hrel
    by_cases hlt : k < 32
    · have hi : (k : Int) < 32 := by omega
      have HLX := Lib.hid (show k < x.length by rw [HX.out]; exact hlt)
      have HLY := Lib.hid (show k < y.length by rw [HY.out]; exact hlt)
      obtain ⟨a, ha⟩ : ∃ a, a = x[k]'(HLX.out) := ⟨_, rfl⟩
      obtain ⟨b, hb⟩ : ∃ b, b = y[k]'(HLY.out) := ⟨_, rfl⟩
      have q1 : ∀ z : World, Two 25 w.heap.size (w.heap.size + 1) (encB x) (encB y) z → z.cell? ⟨w.heap.size, k, none⟩ = some (.int .u8 (a.toNat : Int)) := fun z hz => by
        rw [cell_of_row _ _ _ _ _ _ hz.1, List.getElem?_toArray, List.getElem?_eq_getElem (by simpa using HLX.out), encB_get x k HLX.out, ha]
      have q2 : ∀ z : World, Two 25 w.heap.size (w.heap.size + 1) (encB x) (encB y) z → z.cell? ⟨w.heap.size + 1, k, none⟩ = some (.int .u8 (b.toNat : Int)) := fun z hz => by
        rw [cell_of_row _ _ _ _ _ _ hz.2, List.getElem?_toArray, List.getElem?_eq_getElem (by simpa using HLY.out), encB_get y k HLY.out, hb]
      by_cases hab : a = b
      · have e1 : ((a.toNat : Int) != (b.toNat : Int)) = false := by simp [hab]
        have e2 : ((a.toNat : Int) == (b.toNat : Int)) = true := by simp [hab]
        have HN := Lib.hid (show x.take (k + 1) = y.take (k + 1) by rw [List.take_succ_eq_append_getElem HLX.out, List.take_succ_eq_append_getElem HLY.out, hxy.out, ← ha, ← hb, hab])
        clear ha hb hab
        go_wp2_with fail
        refine seq_start (by kernel_rfl) (Two 25 w.heap.size (w.heap.size + 1) (encB x) (encB y)) 7 [0, 1, 2, 3, 4, 5, 6] rfl (hinv.out.1) (fun hS => ?_)
        refine seq_take (v := ?_) rfl (by kernel_rfl) (by kernel_rfl) (by kernel_rfl) (Or.inl ⟨by rfl, fun w' hSw => ?_⟩) (by assumption) ?_
        rotate_left
        · go_simp
          with_reducible rfl
        simp only [Act.put, List.setIfInBounds_toArray, List.set_cons_zero, List.set_cons_succ]
        refine seq_take (v := ?_) rfl (by kernel_rfl) (by kernel_rfl) (by kernel_rfl) (Or.inl ⟨by rfl, fun w' hSw => ?_⟩) (by assumption) ?_
        rotate_left
        · go_simp
          with_reducible rfl
        simp only [Act.put, List.setIfInBounds_toArray, List.set_cons_zero, List.set_cons_succ]
        refine seq_take (v := ?_) rfl (by kernel_rfl) (by kernel_rfl) (by kernel_rfl) (Or.inl ⟨by rfl, fun w' hSw => ?_⟩) (by assumption) ?_
        rotate_left
        · go_simp
          with_reducible rfl
        simp only [Act.put, List.setIfInBounds_toArray, List.set_cons_zero, List.set_cons_succ]
        refine seq_take (v := ?_) rfl (by kernel_rfl) (by kernel_rfl) (by kernel_rfl) (Or.inl ⟨by rfl, fun w' hSw => ?_⟩) (by assumption) ?_
        rotate_left
        · go_simp
          with_reducible rfl
        simp only [Act.put, List.setIfInBounds_toArray, List.set_cons_zero, List.set_cons_succ]
        refine seq_take (v := ?_) rfl (by kernel_rfl) (by kernel_rfl) (by kernel_rfl) (Or.inl ⟨by rfl, fun w' hSw => ?_⟩) (by assumption) ?_
        rotate_left
        · go_simp
          with_reducible rfl
        simp only [Act.put, List.setIfInBounds_toArray, List.set_cons_zero, List.set_cons_succ]
        refine seq_take (v := ?_) rfl (by kernel_rfl) (by kernel_rfl) (by kernel_rfl) (Or.inl ⟨by rfl, fun w' hSw => ?_⟩) (by assumption) ?_
        rotate_left
        · go_simp
          with_reducible rfl
        simp only [Act.put, List.setIfInBounds_toArray, List.set_cons_zero, List.set_cons_succ]
        refine seq_take (v := ?_) rfl (by kernel_rfl) (by kernel_rfl) (by kernel_rfl) (Or.inl ⟨by rfl, fun w' hSw => ?_⟩) (by assumption) ?_
        rotate_left
        · go_simp
          with_reducible rfl
        simp only [Act.put, List.setIfInBounds_toArray, List.set_cons_zero, List.set_cons_succ]
        refine seq_done (by kernel_rfl) ?_
        all_goals skip
        have HI := Lib.hid (show Two 25 w.heap.size (w.heap.size + 1) (encB x) (encB y) wr.drew ∧ Keeps [] w wr.drew from ⟨hinv.out.1, hinv.out.2.drew⟩)
        clear hinv q1 q2 hS
        generalize wr.drew = V at HI ⊢
        go_wp2_with fail
        go_roundw
        case rel => exact ⟨k + 1, by omega, by go_num, HN.out, HI.out⟩
        case measure => simp [intOf]; omega
      · have hne : ¬ (a.toNat : Int) = (b.toNat : Int) := fun e => hab (UInt8.toNat_inj.1 (by omega))
        have e1 : ((a.toNat : Int) != (b.toNat : Int)) = true := by simp [hne]
        have e2 : ((a.toNat : Int) == (b.toNat : Int)) = false := by simp [hne]
        have HN := Lib.hid (show Op.bytesLess x y = decide (a.toNat < b.toNat) by
          rw [bl_diff x y k HLX.out HLY.out hxy.out (by rw [← ha, ← hb]; exact hab), ← ha, ← hb]
          congr 1)
        clear ha hb hab hne
        go_wp2_with fail
        refine seq_start (by kernel_rfl) (Two 25 w.heap.size (w.heap.size + 1) (encB x) (encB y)) 7 [0, 1, 2, 3, 4, 5, 6] rfl (hinv.out.1) (fun hS => ?_)
        refine seq_take (v := ?_) rfl (by kernel_rfl) (by kernel_rfl) (by kernel_rfl) (Or.inl ⟨by rfl, fun w' hSw => ?_⟩) (by assumption) ?_
        rotate_left
        · go_simp
          with_reducible rfl
        simp only [Act.put, List.setIfInBounds_toArray, List.set_cons_zero, List.set_cons_succ]
        refine seq_take (v := ?_) rfl (by kernel_rfl) (by kernel_rfl) (by kernel_rfl) (Or.inl ⟨by rfl, fun w' hSw => ?_⟩) (by assumption) ?_
        rotate_left
        · go_simp
          with_reducible rfl
        simp only [Act.put, List.setIfInBounds_toArray, List.set_cons_zero, List.set_cons_succ]
        refine seq_take (v := ?_) rfl (by kernel_rfl) (by kernel_rfl) (by kernel_rfl) (Or.inl ⟨by rfl, fun w' hSw => ?_⟩) (by assumption) ?_
        rotate_left
        · go_simp
          with_reducible rfl
        simp only [Act.put, List.setIfInBounds_toArray, List.set_cons_zero, List.set_cons_succ]
        refine seq_take (v := ?_) rfl (by kernel_rfl) (by kernel_rfl) (by kernel_rfl) (Or.inl ⟨by rfl, fun w' hSw => ?_⟩) (by assumption) ?_
        rotate_left
        · go_simp
          with_reducible rfl
        simp only [Act.put, List.setIfInBounds_toArray, List.set_cons_zero, List.set_cons_succ]
        refine seq_take (v := ?_) rfl (by kernel_rfl) (by kernel_rfl) (by kernel_rfl) (Or.inl ⟨by rfl, fun w' hSw => ?_⟩) (by assumption) ?_
        rotate_left
        · go_simp
          with_reducible rfl
        simp only [Act.put, List.setIfInBounds_toArray, List.set_cons_zero, List.set_cons_succ]
        refine seq_take (v := ?_) rfl (by kernel_rfl) (by kernel_rfl) (by kernel_rfl) (Or.inl ⟨by rfl, fun w' hSw => ?_⟩) (by assumption) ?_
        rotate_left
        · go_simp
          with_reducible rfl
        simp only [Act.put, List.setIfInBounds_toArray, List.set_cons_zero, List.set_cons_succ]
        refine seq_take (v := ?_) rfl (by kernel_rfl) (by kernel_rfl) (by kernel_rfl) (Or.inl ⟨by rfl, fun w' hSw => ?_⟩) (by assumption) ?_
        rotate_left
        · go_simp
          with_reducible rfl
        simp only [Act.put, List.setIfInBounds_toArray, List.set_cons_zero, List.set_cons_succ]
        refine seq_done (by kernel_rfl) ?_
        all_goals skip
        have HI := Lib.hid (show Two 25 w.heap.size (w.heap.size + 1) (encB x) (encB y) wr.drew ∧ Keeps [] w wr.drew from ⟨hinv.out.1, hinv.out.2.drew⟩)
        clear hinv hS
        generalize wr.drew = V at HI ⊢
        go_wp2_with fail
        refine seq_start (by kernel_rfl) (Two 25 w.heap.size (w.heap.size + 1) (encB x) (encB y)) 8 [0, 1, 2, 3, 4, 5, 6, 7] rfl (HI.out.1) (fun hS => ?_)
        refine seq_take (v := ?_) rfl (by kernel_rfl) (by kernel_rfl) (by kernel_rfl) (Or.inl ⟨by rfl, fun w' hSw => ?_⟩) (by assumption) ?_
        rotate_left
        · go_simp
          with_reducible rfl
        simp only [Act.put, List.setIfInBounds_toArray, List.set_cons_zero, List.set_cons_succ]
        refine seq_take (v := ?_) rfl (by kernel_rfl) (by kernel_rfl) (by kernel_rfl) (Or.inl ⟨by rfl, fun w' hSw => ?_⟩) (by assumption) ?_
        rotate_left
        · go_simp
          with_reducible rfl
        simp only [Act.put, List.setIfInBounds_toArray, List.set_cons_zero, List.set_cons_succ]
        refine seq_take (v := ?_) rfl (by kernel_rfl) (by kernel_rfl) (by kernel_rfl) (Or.inl ⟨by rfl, fun w' hSw => ?_⟩) (by assumption) ?_
        rotate_left
        · go_simp
          with_reducible rfl
        simp only [Act.put, List.setIfInBounds_toArray, List.set_cons_zero, List.set_cons_succ]
        refine seq_take (v := ?_) rfl (by kernel_rfl) (by kernel_rfl) (by kernel_rfl) (Or.inl ⟨by rfl, fun w' hSw => ?_⟩) (by assumption) ?_
        rotate_left
        · go_simp
          with_reducible rfl
        simp only [Act.put, List.setIfInBounds_toArray, List.set_cons_zero, List.set_cons_succ]
        refine seq_take (v := ?_) rfl (by kernel_rfl) (by kernel_rfl) (by kernel_rfl) (Or.inl ⟨by rfl, fun w' hSw => ?_⟩) (by assumption) ?_
        rotate_left
        · go_simp
          with_reducible rfl
        simp only [Act.put, List.setIfInBounds_toArray, List.set_cons_zero, List.set_cons_succ]
        refine seq_take (v := ?_) rfl (by kernel_rfl) (by kernel_rfl) (by kernel_rfl) (Or.inl ⟨by rfl, fun w' hSw => ?_⟩) (by assumption) ?_
        rotate_left
        · go_simp
          with_reducible rfl
        simp only [Act.put, List.setIfInBounds_toArray, List.set_cons_zero, List.set_cons_succ]
        refine seq_take (v := ?_) rfl (by kernel_rfl) (by kernel_rfl) (by kernel_rfl) (Or.inl ⟨by rfl, fun w' hSw => ?_⟩) (by assumption) ?_
        rotate_left
        · go_simp
          with_reducible rfl
        simp only [Act.put, List.setIfInBounds_toArray, List.set_cons_zero, List.set_cons_succ]
        refine seq_take (v := ?_) rfl (by kernel_rfl) (by kernel_rfl) (by kernel_rfl) (Or.inl ⟨by rfl, fun w' hSw => ?_⟩) (by assumption) ?_
        rotate_left
        · go_simp
          with_reducible rfl
        simp only [Act.put, List.setIfInBounds_toArray, List.set_cons_zero, List.set_cons_succ]
        refine seq_done (by kernel_rfl) ?_
        all_goals skip
        go_wp2_with fail
        go_ret
        exact ⟨by rw [HN.out]; rfl, HI.out.2.drew⟩
    · have hi : ¬ (k : Int) < 32 := by omega
      have HE := Lib.hid (show x = y by
        have h2 := hxy.out
        rwa [List.take_of_length_le (by rw [HX.out]; omega), List.take_of_length_le (by rw [HY.out]; omega)] at h2)
      clear hlt
      go_wp2_with fail
      go_ret
      exact ⟨by rw [HE.out, bl_same]; rfl, hinv.out.2⟩
end Go.Proofs.YtomleanoofoejaaDoor
