/- The law on which fingerprint is ahead: called with any two it answers true. -/
import Derived.Test.YtomleanoofoejaaDoorFingSure
import Derived.Test.YtomleanoofoejaaDoorFingLess
import Derived.Test.YtomleanoofoejaaDoorKinds
namespace Go.Proofs.YtomleanoofoejaaDoor
open Go.RowKit
attribute [local irreducible] turnK outK absAll hexAll endK sqzTo hmore

set_option maxRecDepth 100000 in
set_option maxHeartbeats 4000000 in
theorem fless_1 (x y : List UInt8) (w : World) (hc : Con w) (ht : HT w) (hx : x.length = 32) (hy : y.length = 32) (hB : Op.bytesLess x y = true) :
    Calls Tryd.prog 4 #[.agg (encB x).toArray, .agg (encB y).toArray] w fun e w' => e = .returned (.bool true) ∧ Keeps [] w w' := by
  have HB := Lib.hid hB
  have HI := Lib.hid (show (Tryd.prog.info? 25).map (·.size) = some (encB x).length by rw [length_encB, hx]; exact infoPrF)
  have HJ := Lib.hid (show (Tryd.prog.info? 25).map (·.size) = some (encB y).length by rw [length_encB, hy]; exact infoPrF)
  have HX := Lib.hid hx
  have HY := Lib.hid hy
  have HC := Lib.hid (And.intro hc ht)
  obtain ⟨xs, hxs⟩ : ∃ xs, xs = encB x := ⟨_, rfl⟩
  obtain ⟨ys, hys⟩ : ∃ ys, ys = encB y := ⟨_, rfl⟩
  rw [← hxs, ← hys]
  rw [← hxs] at HI
  rw [← hys] at HJ
  have HXS := Lib.hid hxs
  have HYS := Lib.hid hys
  clear hx hy hxs hys hc ht hB
  go_enter Tryd.func4, Tryd.ntmps4
  go_wp2_with fail
  obtain ⟨W, hW⟩ : ∃ W, W = (w.alloc (.cells xs.toArray 25)).alloc (.cells ys.toArray 25) := ⟨_, rfl⟩
  rw [← hW]
  have HW := Lib.hid (show Two 25 w.heap.size (w.heap.size + 1) xs ys W ∧ Keeps [] w W from by
    rw [hW]; exact ⟨⟨heap_alloc2_old _ _ _, heap_alloc2_new _ _ _⟩, ((Keeps.refl [] w).alloc _).alloc _⟩)
  clear hW
  refine seq_start (by kernel_rfl) (Two 25 w.heap.size (w.heap.size + 1) xs ys) 32 [0, 1, 2, 3, 4, 5, 6, 7, 8, 9, 10, 11, 12, 13, 14, 15, 16, 17, 18, 19, 20, 21, 22, 23, 24, 25, 26, 27, 28, 29, 30, 31] rfl (HW.out.1) (fun hS => ?_)
  have H0 := Lib.hid (show Two 25 w.heap.size (w.heap.size + 1) xs ys W.drew ∧ Keeps [] w W.drew from ⟨HW.out.1, HW.out.2.drew⟩)
  clear HW
  generalize W.drew = V at H0 hS ⊢
  refine seq_take (v := .agg xs.toArray) rfl (by kernel_rfl) (by kernel_rfl) (by kernel_rfl) ?_ (by assumption) ?_
  · exact yieldsIf_load_mid (by rfl) 25 (.tmp 2) (by rfl) w.heap.size 0 (by rfl) xs _ (fun z hz => rangeAt_rowF hz.1) Tryd.underlying25 rfl HI.out
  simp only [Act.put, List.setIfInBounds_toArray, List.set_cons_zero, List.set_cons_succ]
  refine seq_take (v := .agg ys.toArray) rfl (by kernel_rfl) (by kernel_rfl) (by kernel_rfl) ?_ (by assumption) ?_
  · exact yieldsIf_load_mid (by rfl) 25 (.tmp 3) (by rfl) (w.heap.size + 1) 0 (by rfl) ys _ (fun z hz => rangeAt_rowF hz.2) Tryd.underlying25 rfl HJ.out
  simp only [Act.put, List.setIfInBounds_toArray, List.set_cons_zero, List.set_cons_succ]
  iterate 1 (refine seq_later ?_; simp only [List.cons_append, List.nil_append])
  refine seq_take (v := .agg xs.toArray) rfl (by kernel_rfl) (by kernel_rfl) (by kernel_rfl) ?_ (by assumption) ?_
  · exact yieldsIf_load_mid (by rfl) 25 (.tmp 2) (by rfl) w.heap.size 0 (by rfl) xs _ (fun z hz => rangeAt_rowF hz.1) Tryd.underlying25 rfl HI.out
  simp only [Act.put, List.setIfInBounds_toArray, List.set_cons_zero, List.set_cons_succ]
  refine seq_take (v := .agg ys.toArray) rfl (by kernel_rfl) (by kernel_rfl) (by kernel_rfl) ?_ (by assumption) ?_
  · exact yieldsIf_load_mid (by rfl) 25 (.tmp 3) (by rfl) (w.heap.size + 1) 0 (by rfl) ys _ (fun z hz => rangeAt_rowF hz.2) Tryd.underlying25 rfl HJ.out
  simp only [Act.put, List.setIfInBounds_toArray, List.set_cons_zero, List.set_cons_succ]
  iterate 27 (refine seq_later ?_; simp only [List.cons_append, List.nil_append])
  refine seq_do rfl (by kernel_rfl) (by rfl) (fun K hK => ?_)
  go_simp
  rw [HXS.out, HYS.out]
  refine (less_any x y _ HX.out HY.out).mono ?_
  rintro e w1 ⟨rfl, hk1⟩
  rw [← HXS.out, ← HYS.out, HB.out]
  have H1 := Lib.hid (show Two 25 w.heap.size (w.heap.size + 1) xs ys w1 ∧ Keeps [] w w1 from ⟨H0.out.1.keeps hk1 (by simp) (by simp), H0.out.2.trans hk1 (by simp)⟩)
  clear hk1 H0
  refine hK.out (Two 25 w.heap.size (w.heap.size + 1) xs ys) _ _ (fun _ h => h) H1.out.1 (fun hS => ?_)
  refine seq_do rfl (by kernel_rfl) (by rfl) (fun K hK => ?_)
  go_simp
  rw [HXS.out, HYS.out]
  refine (refless_any x y _ HX.out HY.out).mono ?_
  rintro e w2 ⟨rfl, hk2⟩
  rw [← HXS.out, ← HYS.out, HB.out]
  have H2 := Lib.hid (show Two 25 w.heap.size (w.heap.size + 1) xs ys w2 ∧ Keeps [] w w2 from ⟨H1.out.1.keeps hk2 (by simp) (by simp), H1.out.2.trans hk2 (by simp)⟩)
  clear hk2 H1
  refine hK.out (Two 25 w.heap.size (w.heap.size + 1) xs ys) _ _ (fun _ h => h) H2.out.1 (fun hS => ?_)
  refine seq_take (v := ?_) rfl (by kernel_rfl) (by kernel_rfl) (by kernel_rfl) (Or.inl ⟨by rfl, fun w' hSw => ?_⟩) (by assumption) ?_
  rotate_left
  · go_simp
    with_reducible rfl
  simp only [Act.put, List.setIfInBounds_toArray, List.set_cons_zero, List.set_cons_succ]
  refine seq_take (v := ?_) rfl (by kernel_rfl) (by kernel_rfl) (by kernel_rfl) (Or.inl ⟨by rfl, fun w' hSw => ?_⟩) (by assumption) ?_
  rotate_left
  · go_simp
    with_reducible rfl
  simp only [Act.put, List.setIfInBounds_toArray, List.set_cons_zero, List.set_cons_succ]
  refine seq_take (v := .agg xs.toArray) rfl (by kernel_rfl) (by kernel_rfl) (by kernel_rfl) ?_ (by assumption) ?_
  · exact yieldsIf_load_mid (by rfl) 25 (.tmp 2) (by rfl) w.heap.size 0 (by rfl) xs _ (fun z hz => rangeAt_rowF hz.1) Tryd.underlying25 rfl HI.out
  simp only [Act.put, List.setIfInBounds_toArray, List.set_cons_zero, List.set_cons_succ]
  refine seq_take (v := .agg xs.toArray) rfl (by kernel_rfl) (by kernel_rfl) (by kernel_rfl) ?_ (by assumption) ?_
  · exact yieldsIf_load_mid (by rfl) 25 (.tmp 2) (by rfl) w.heap.size 0 (by rfl) xs _ (fun z hz => rangeAt_rowF hz.1) Tryd.underlying25 rfl HI.out
  simp only [Act.put, List.setIfInBounds_toArray, List.set_cons_zero, List.set_cons_succ]
  refine seq_do rfl (by kernel_rfl) (by rfl) (fun K hK => ?_)
  go_simp
  rw [HXS.out]
  refine (less_any x x _ HX.out HX.out).mono ?_
  rintro e w3 ⟨rfl, hk3⟩
  rw [bl_same]
  have H3 := Lib.hid (show Two 25 w.heap.size (w.heap.size + 1) xs ys w3 ∧ Keeps [] w w3 from ⟨H2.out.1.keeps hk3 (by simp) (by simp), H2.out.2.trans hk3 (by simp)⟩)
  clear hk3 H2
  refine hK.out (Two 25 w.heap.size (w.heap.size + 1) xs ys) _ _ (fun _ h => h) H3.out.1 (fun hS => ?_)
  refine seq_take (v := ?_) rfl (by kernel_rfl) (by kernel_rfl) (by kernel_rfl) (Or.inl ⟨by rfl, fun w' hSw => ?_⟩) (by assumption) ?_
  rotate_left
  · go_simp
    with_reducible rfl
  simp only [Act.put, List.setIfInBounds_toArray, List.set_cons_zero, List.set_cons_succ]
  refine seq_take (v := ?_) rfl (by kernel_rfl) (by kernel_rfl) (by kernel_rfl) (Or.inl ⟨by rfl, fun w' hSw => ?_⟩) (by assumption) ?_
  rotate_left
  · go_simp
    with_reducible rfl
  simp only [Act.put, List.setIfInBounds_toArray, List.set_cons_zero, List.set_cons_succ]
  refine seq_take (v := ?_) rfl (by kernel_rfl) (by kernel_rfl) (by kernel_rfl) (Or.inl ⟨by rfl, fun w' hSw => ?_⟩) (by assumption) ?_
  rotate_left
  · go_simp
    with_reducible rfl
  simp only [Act.put, List.setIfInBounds_toArray, List.set_cons_zero, List.set_cons_succ]
  refine seq_take (v := .agg xs.toArray) rfl (by kernel_rfl) (by kernel_rfl) (by kernel_rfl) ?_ (by assumption) ?_
  · exact yieldsIf_load_mid (by rfl) 25 (.tmp 2) (by rfl) w.heap.size 0 (by rfl) xs _ (fun z hz => rangeAt_rowF hz.1) Tryd.underlying25 rfl HI.out
  simp only [Act.put, List.setIfInBounds_toArray, List.set_cons_zero, List.set_cons_succ]
  refine seq_take (v := .agg ys.toArray) rfl (by kernel_rfl) (by kernel_rfl) (by kernel_rfl) ?_ (by assumption) ?_
  · exact yieldsIf_load_mid (by rfl) 25 (.tmp 3) (by rfl) (w.heap.size + 1) 0 (by rfl) ys _ (fun z hz => rangeAt_rowF hz.2) Tryd.underlying25 rfl HJ.out
  simp only [Act.put, List.setIfInBounds_toArray, List.set_cons_zero, List.set_cons_succ]
  refine seq_do rfl (by kernel_rfl) (by rfl) (fun K hK => ?_)
  go_simp
  rw [HXS.out, HYS.out]
  refine (less_any x y _ HX.out HY.out).mono ?_
  rintro e w4 ⟨rfl, hk4⟩
  rw [← HXS.out, ← HYS.out, HB.out]
  have H4 := Lib.hid (show Two 25 w.heap.size (w.heap.size + 1) xs ys w4 ∧ Keeps [] w w4 from ⟨H3.out.1.keeps hk4 (by simp) (by simp), H3.out.2.trans hk4 (by simp)⟩)
  clear hk4 H3
  refine hK.out (Two 25 w.heap.size (w.heap.size + 1) xs ys) _ _ (fun _ h => h) H4.out.1 (fun hS => ?_)
  refine seq_take (v := ?_) rfl (by kernel_rfl) (by kernel_rfl) (by kernel_rfl) (Or.inl ⟨by rfl, fun w' hSw => ?_⟩) (by assumption) ?_
  rotate_left
  · go_simp
    with_reducible rfl
  simp only [Act.put, List.setIfInBounds_toArray, List.set_cons_zero, List.set_cons_succ]
  refine seq_take (v := undef) rfl (by kernel_rfl) (by kernel_rfl) (by kernel_rfl) (Or.inr ⟨by rfl, rfl⟩) (by assumption) ?_
  simp only [Act.put, List.setIfInBounds_toArray, List.set_cons_zero, List.set_cons_succ]
  refine seq_take (v := undef) rfl (by kernel_rfl) (by kernel_rfl) (by kernel_rfl) (Or.inr ⟨by rfl, rfl⟩) (by assumption) ?_
  simp only [Act.put, List.setIfInBounds_toArray, List.set_cons_zero, List.set_cons_succ]
  refine seq_take (v := undef) rfl (by kernel_rfl) (by kernel_rfl) (by kernel_rfl) (Or.inr ⟨by rfl, rfl⟩) (by assumption) ?_
  simp only [Act.put, List.setIfInBounds_toArray, List.set_cons_zero, List.set_cons_succ]
  refine seq_take (v := ?_) rfl (by kernel_rfl) (by kernel_rfl) (by kernel_rfl) (Or.inl ⟨by rfl, fun w' hSw => ?_⟩) (by assumption) ?_
  rotate_left
  · go_simp
    with_reducible rfl
  simp only [Act.put, List.setIfInBounds_toArray, List.set_cons_zero, List.set_cons_succ]
  refine seq_take (v := ?_) rfl (by kernel_rfl) (by kernel_rfl) (by kernel_rfl) (Or.inl ⟨by rfl, fun w' hSw => ?_⟩) (by assumption) ?_
  rotate_left
  · go_simp
    with_reducible rfl
  simp only [Act.put, List.setIfInBounds_toArray, List.set_cons_zero, List.set_cons_succ]
  refine seq_take (v := undef) rfl (by kernel_rfl) (by kernel_rfl) (by kernel_rfl) (Or.inr ⟨by rfl, rfl⟩) (by assumption) ?_
  simp only [Act.put, List.setIfInBounds_toArray, List.set_cons_zero, List.set_cons_succ]
  refine seq_take (v := undef) rfl (by kernel_rfl) (by kernel_rfl) (by kernel_rfl) (Or.inr ⟨by rfl, rfl⟩) (by assumption) ?_
  simp only [Act.put, List.setIfInBounds_toArray, List.set_cons_zero, List.set_cons_succ]
  refine seq_take (v := undef) rfl (by kernel_rfl) (by kernel_rfl) (by kernel_rfl) (Or.inr ⟨by rfl, rfl⟩) (by assumption) ?_
  simp only [Act.put, List.setIfInBounds_toArray, List.set_cons_zero, List.set_cons_succ]
  refine seq_take (v := ?_) rfl (by kernel_rfl) (by kernel_rfl) (by kernel_rfl) (Or.inl ⟨by rfl, fun w' hSw => ?_⟩) (by assumption) ?_
  rotate_left
  · go_simp
    with_reducible rfl
  simp only [Act.put, List.setIfInBounds_toArray, List.set_cons_zero, List.set_cons_succ]
  refine seq_take (v := ?_) rfl (by kernel_rfl) (by kernel_rfl) (by kernel_rfl) (Or.inl ⟨by rfl, fun w' hSw => ?_⟩) (by assumption) ?_
  rotate_left
  · go_simp
    with_reducible rfl
  simp only [Act.put, List.setIfInBounds_toArray, List.set_cons_zero, List.set_cons_succ]
  refine seq_take (v := ?_) rfl (by kernel_rfl) (by kernel_rfl) (by kernel_rfl) (Or.inl ⟨by rfl, fun w' hSw => ?_⟩) (by assumption) ?_
  rotate_left
  · go_simp
    with_reducible rfl
  simp only [Act.put, List.setIfInBounds_toArray, List.set_cons_zero, List.set_cons_succ]
  refine seq_do rfl (by kernel_rfl) (by rfl) (fun K hK => ?_)
  go_simp
  refine (fsure_any w4 (HC.out.1.keeps H4.out.2 (by simp)) (HC.out.2.keeps H4.out.2 (by simp))).mono ?_
  rintro e w5 ⟨rfl, hk5⟩
  have H5 := Lib.hid (show Two 25 w.heap.size (w.heap.size + 1) xs ys w5 ∧ Keeps [] w w5 from ⟨H4.out.1.keeps hk5 (by simp) (by simp), H4.out.2.trans hk5 (by simp)⟩)
  refine hK.out (Two 25 w.heap.size (w.heap.size + 1) xs ys) _ _ (fun _ h => h) H5.out.1 (fun hS => ?_)
  refine seq_take (v := ?_) rfl (by kernel_rfl) (by kernel_rfl) (by kernel_rfl) (Or.inl ⟨by rfl, fun w' hSw => ?_⟩) (by assumption) ?_
  rotate_left
  · go_simp
    with_reducible rfl
  simp only [Act.put, List.setIfInBounds_toArray, List.set_cons_zero, List.set_cons_succ]
  refine seq_take (v := ?_) rfl (by kernel_rfl) (by kernel_rfl) (by kernel_rfl) (Or.inl ⟨by rfl, fun w' hSw => ?_⟩) (by assumption) ?_
  rotate_left
  · go_simp
    with_reducible rfl
  simp only [Act.put, List.setIfInBounds_toArray, List.set_cons_zero, List.set_cons_succ]
  refine seq_done (by kernel_rfl) ?_
  all_goals skip
  go_wp2_with fail
  go_ret
  exact ⟨rfl, H5.out.2⟩
set_option maxRecDepth 100000 in
set_option maxHeartbeats 4000000 in
theorem fless_2 (x y : List UInt8) (w : World) (hc : Con w) (ht : HT w) (hx : x.length = 32) (hy : y.length = 32) (hB : Op.bytesLess x y = false) (hB2 : Op.bytesLess y x = true) :
    Calls Tryd.prog 4 #[.agg (encB x).toArray, .agg (encB y).toArray] w fun e w' => e = .returned (.bool true) ∧ Keeps [] w w' := by
  have HB := Lib.hid hB
  have HB2 := Lib.hid hB2
  have HI := Lib.hid (show (Tryd.prog.info? 25).map (·.size) = some (encB x).length by rw [length_encB, hx]; exact infoPrF)
  have HJ := Lib.hid (show (Tryd.prog.info? 25).map (·.size) = some (encB y).length by rw [length_encB, hy]; exact infoPrF)
  have HX := Lib.hid hx
  have HY := Lib.hid hy
  have HC := Lib.hid (And.intro hc ht)
  obtain ⟨xs, hxs⟩ : ∃ xs, xs = encB x := ⟨_, rfl⟩
  obtain ⟨ys, hys⟩ : ∃ ys, ys = encB y := ⟨_, rfl⟩
  rw [← hxs, ← hys]
  rw [← hxs] at HI
  rw [← hys] at HJ
  have HXS := Lib.hid hxs
  have HYS := Lib.hid hys
  clear hx hy hxs hys hc ht hB hB2
  go_enter Tryd.func4, Tryd.ntmps4
  go_wp2_with fail
  obtain ⟨W, hW⟩ : ∃ W, W = (w.alloc (.cells xs.toArray 25)).alloc (.cells ys.toArray 25) := ⟨_, rfl⟩
  rw [← hW]
  have HW := Lib.hid (show Two 25 w.heap.size (w.heap.size + 1) xs ys W ∧ Keeps [] w W from by
    rw [hW]; exact ⟨⟨heap_alloc2_old _ _ _, heap_alloc2_new _ _ _⟩, ((Keeps.refl [] w).alloc _).alloc _⟩)
  clear hW
  refine seq_start (by kernel_rfl) (Two 25 w.heap.size (w.heap.size + 1) xs ys) 32 [0, 1, 2, 3, 4, 5, 6, 7, 8, 9, 10, 11, 12, 13, 14, 15, 16, 17, 18, 19, 20, 21, 22, 23, 24, 25, 26, 27, 28, 29, 30, 31] rfl (HW.out.1) (fun hS => ?_)
  have H0 := Lib.hid (show Two 25 w.heap.size (w.heap.size + 1) xs ys W.drew ∧ Keeps [] w W.drew from ⟨HW.out.1, HW.out.2.drew⟩)
  clear HW
  generalize W.drew = V at H0 hS ⊢
  refine seq_take (v := .agg xs.toArray) rfl (by kernel_rfl) (by kernel_rfl) (by kernel_rfl) ?_ (by assumption) ?_
  · exact yieldsIf_load_mid (by rfl) 25 (.tmp 2) (by rfl) w.heap.size 0 (by rfl) xs _ (fun z hz => rangeAt_rowF hz.1) Tryd.underlying25 rfl HI.out
  simp only [Act.put, List.setIfInBounds_toArray, List.set_cons_zero, List.set_cons_succ]
  refine seq_take (v := .agg ys.toArray) rfl (by kernel_rfl) (by kernel_rfl) (by kernel_rfl) ?_ (by assumption) ?_
  · exact yieldsIf_load_mid (by rfl) 25 (.tmp 3) (by rfl) (w.heap.size + 1) 0 (by rfl) ys _ (fun z hz => rangeAt_rowF hz.2) Tryd.underlying25 rfl HJ.out
  simp only [Act.put, List.setIfInBounds_toArray, List.set_cons_zero, List.set_cons_succ]
  iterate 1 (refine seq_later ?_; simp only [List.cons_append, List.nil_append])
  refine seq_take (v := .agg xs.toArray) rfl (by kernel_rfl) (by kernel_rfl) (by kernel_rfl) ?_ (by assumption) ?_
  · exact yieldsIf_load_mid (by rfl) 25 (.tmp 2) (by rfl) w.heap.size 0 (by rfl) xs _ (fun z hz => rangeAt_rowF hz.1) Tryd.underlying25 rfl HI.out
  simp only [Act.put, List.setIfInBounds_toArray, List.set_cons_zero, List.set_cons_succ]
  refine seq_take (v := .agg ys.toArray) rfl (by kernel_rfl) (by kernel_rfl) (by kernel_rfl) ?_ (by assumption) ?_
  · exact yieldsIf_load_mid (by rfl) 25 (.tmp 3) (by rfl) (w.heap.size + 1) 0 (by rfl) ys _ (fun z hz => rangeAt_rowF hz.2) Tryd.underlying25 rfl HJ.out
  simp only [Act.put, List.setIfInBounds_toArray, List.set_cons_zero, List.set_cons_succ]
  iterate 27 (refine seq_later ?_; simp only [List.cons_append, List.nil_append])
  refine seq_do rfl (by kernel_rfl) (by rfl) (fun K hK => ?_)
  go_simp
  rw [HXS.out, HYS.out]
  refine (less_any x y _ HX.out HY.out).mono ?_
  rintro e w1 ⟨rfl, hk1⟩
  rw [← HXS.out, ← HYS.out, HB.out]
  have H1 := Lib.hid (show Two 25 w.heap.size (w.heap.size + 1) xs ys w1 ∧ Keeps [] w w1 from ⟨H0.out.1.keeps hk1 (by simp) (by simp), H0.out.2.trans hk1 (by simp)⟩)
  clear hk1 H0
  refine hK.out (Two 25 w.heap.size (w.heap.size + 1) xs ys) _ _ (fun _ h => h) H1.out.1 (fun hS => ?_)
  refine seq_do rfl (by kernel_rfl) (by rfl) (fun K hK => ?_)
  go_simp
  rw [HXS.out, HYS.out]
  refine (refless_any x y _ HX.out HY.out).mono ?_
  rintro e w2 ⟨rfl, hk2⟩
  rw [← HXS.out, ← HYS.out, HB.out]
  have H2 := Lib.hid (show Two 25 w.heap.size (w.heap.size + 1) xs ys w2 ∧ Keeps [] w w2 from ⟨H1.out.1.keeps hk2 (by simp) (by simp), H1.out.2.trans hk2 (by simp)⟩)
  clear hk2 H1
  refine hK.out (Two 25 w.heap.size (w.heap.size + 1) xs ys) _ _ (fun _ h => h) H2.out.1 (fun hS => ?_)
  refine seq_take (v := ?_) rfl (by kernel_rfl) (by kernel_rfl) (by kernel_rfl) (Or.inl ⟨by rfl, fun w' hSw => ?_⟩) (by assumption) ?_
  rotate_left
  · go_simp
    with_reducible rfl
  simp only [Act.put, List.setIfInBounds_toArray, List.set_cons_zero, List.set_cons_succ]
  refine seq_take (v := ?_) rfl (by kernel_rfl) (by kernel_rfl) (by kernel_rfl) (Or.inl ⟨by rfl, fun w' hSw => ?_⟩) (by assumption) ?_
  rotate_left
  · go_simp
    with_reducible rfl
  simp only [Act.put, List.setIfInBounds_toArray, List.set_cons_zero, List.set_cons_succ]
  refine seq_take (v := .agg xs.toArray) rfl (by kernel_rfl) (by kernel_rfl) (by kernel_rfl) ?_ (by assumption) ?_
  · exact yieldsIf_load_mid (by rfl) 25 (.tmp 2) (by rfl) w.heap.size 0 (by rfl) xs _ (fun z hz => rangeAt_rowF hz.1) Tryd.underlying25 rfl HI.out
  simp only [Act.put, List.setIfInBounds_toArray, List.set_cons_zero, List.set_cons_succ]
  refine seq_take (v := .agg xs.toArray) rfl (by kernel_rfl) (by kernel_rfl) (by kernel_rfl) ?_ (by assumption) ?_
  · exact yieldsIf_load_mid (by rfl) 25 (.tmp 2) (by rfl) w.heap.size 0 (by rfl) xs _ (fun z hz => rangeAt_rowF hz.1) Tryd.underlying25 rfl HI.out
  simp only [Act.put, List.setIfInBounds_toArray, List.set_cons_zero, List.set_cons_succ]
  refine seq_do rfl (by kernel_rfl) (by rfl) (fun K hK => ?_)
  go_simp
  rw [HXS.out]
  refine (less_any x x _ HX.out HX.out).mono ?_
  rintro e w3 ⟨rfl, hk3⟩
  rw [bl_same]
  have H3 := Lib.hid (show Two 25 w.heap.size (w.heap.size + 1) xs ys w3 ∧ Keeps [] w w3 from ⟨H2.out.1.keeps hk3 (by simp) (by simp), H2.out.2.trans hk3 (by simp)⟩)
  clear hk3 H2
  refine hK.out (Two 25 w.heap.size (w.heap.size + 1) xs ys) _ _ (fun _ h => h) H3.out.1 (fun hS => ?_)
  refine seq_take (v := ?_) rfl (by kernel_rfl) (by kernel_rfl) (by kernel_rfl) (Or.inl ⟨by rfl, fun w' hSw => ?_⟩) (by assumption) ?_
  rotate_left
  · go_simp
    with_reducible rfl
  simp only [Act.put, List.setIfInBounds_toArray, List.set_cons_zero, List.set_cons_succ]
  refine seq_take (v := ?_) rfl (by kernel_rfl) (by kernel_rfl) (by kernel_rfl) (Or.inl ⟨by rfl, fun w' hSw => ?_⟩) (by assumption) ?_
  rotate_left
  · go_simp
    with_reducible rfl
  simp only [Act.put, List.setIfInBounds_toArray, List.set_cons_zero, List.set_cons_succ]
  refine seq_take (v := ?_) rfl (by kernel_rfl) (by kernel_rfl) (by kernel_rfl) (Or.inl ⟨by rfl, fun w' hSw => ?_⟩) (by assumption) ?_
  rotate_left
  · go_simp
    with_reducible rfl
  simp only [Act.put, List.setIfInBounds_toArray, List.set_cons_zero, List.set_cons_succ]
  refine seq_take (v := .agg xs.toArray) rfl (by kernel_rfl) (by kernel_rfl) (by kernel_rfl) ?_ (by assumption) ?_
  · exact yieldsIf_load_mid (by rfl) 25 (.tmp 2) (by rfl) w.heap.size 0 (by rfl) xs _ (fun z hz => rangeAt_rowF hz.1) Tryd.underlying25 rfl HI.out
  simp only [Act.put, List.setIfInBounds_toArray, List.set_cons_zero, List.set_cons_succ]
  refine seq_take (v := .agg ys.toArray) rfl (by kernel_rfl) (by kernel_rfl) (by kernel_rfl) ?_ (by assumption) ?_
  · exact yieldsIf_load_mid (by rfl) 25 (.tmp 3) (by rfl) (w.heap.size + 1) 0 (by rfl) ys _ (fun z hz => rangeAt_rowF hz.2) Tryd.underlying25 rfl HJ.out
  simp only [Act.put, List.setIfInBounds_toArray, List.set_cons_zero, List.set_cons_succ]
  refine seq_do rfl (by kernel_rfl) (by rfl) (fun K hK => ?_)
  go_simp
  rw [HXS.out, HYS.out]
  refine (less_any x y _ HX.out HY.out).mono ?_
  rintro e w4 ⟨rfl, hk4⟩
  rw [← HXS.out, ← HYS.out, HB.out]
  have H4 := Lib.hid (show Two 25 w.heap.size (w.heap.size + 1) xs ys w4 ∧ Keeps [] w w4 from ⟨H3.out.1.keeps hk4 (by simp) (by simp), H3.out.2.trans hk4 (by simp)⟩)
  clear hk4 H3
  refine hK.out (Two 25 w.heap.size (w.heap.size + 1) xs ys) _ _ (fun _ h => h) H4.out.1 (fun hS => ?_)
  refine seq_take (v := ?_) rfl (by kernel_rfl) (by kernel_rfl) (by kernel_rfl) (Or.inl ⟨by rfl, fun w' hSw => ?_⟩) (by assumption) ?_
  rotate_left
  · go_simp
    with_reducible rfl
  simp only [Act.put, List.setIfInBounds_toArray, List.set_cons_zero, List.set_cons_succ]
  refine seq_take (v := .agg ys.toArray) rfl (by kernel_rfl) (by kernel_rfl) (by kernel_rfl) ?_ (by assumption) ?_
  · exact yieldsIf_load_mid (by rfl) 25 (.tmp 3) (by rfl) (w.heap.size + 1) 0 (by rfl) ys _ (fun z hz => rangeAt_rowF hz.2) Tryd.underlying25 rfl HJ.out
  simp only [Act.put, List.setIfInBounds_toArray, List.set_cons_zero, List.set_cons_succ]
  refine seq_take (v := .agg xs.toArray) rfl (by kernel_rfl) (by kernel_rfl) (by kernel_rfl) ?_ (by assumption) ?_
  · exact yieldsIf_load_mid (by rfl) 25 (.tmp 2) (by rfl) w.heap.size 0 (by rfl) xs _ (fun z hz => rangeAt_rowF hz.1) Tryd.underlying25 rfl HI.out
  simp only [Act.put, List.setIfInBounds_toArray, List.set_cons_zero, List.set_cons_succ]
  refine seq_do rfl (by kernel_rfl) (by rfl) (fun K hK => ?_)
  go_simp
  rw [HXS.out, HYS.out]
  refine (less_any y x _ HY.out HX.out).mono ?_
  rintro e w5 ⟨rfl, hk5⟩
  rw [← HXS.out, ← HYS.out, HB2.out]
  have H5 := Lib.hid (show Two 25 w.heap.size (w.heap.size + 1) xs ys w5 ∧ Keeps [] w w5 from ⟨H4.out.1.keeps hk5 (by simp) (by simp), H4.out.2.trans hk5 (by simp)⟩)
  clear hk5 H4
  refine hK.out (Two 25 w.heap.size (w.heap.size + 1) xs ys) _ _ (fun _ h => h) H5.out.1 (fun hS => ?_)
  refine seq_take (v := ?_) rfl (by kernel_rfl) (by kernel_rfl) (by kernel_rfl) (Or.inl ⟨by rfl, fun w' hSw => ?_⟩) (by assumption) ?_
  rotate_left
  · go_simp
    with_reducible rfl
  simp only [Act.put, List.setIfInBounds_toArray, List.set_cons_zero, List.set_cons_succ]
  refine seq_take (v := ?_) rfl (by kernel_rfl) (by kernel_rfl) (by kernel_rfl) (Or.inl ⟨by rfl, fun w' hSw => ?_⟩) (by assumption) ?_
  rotate_left
  · go_simp
    with_reducible rfl
  simp only [Act.put, List.setIfInBounds_toArray, List.set_cons_zero, List.set_cons_succ]
  refine seq_take (v := undef) rfl (by kernel_rfl) (by kernel_rfl) (by kernel_rfl) (Or.inr ⟨by rfl, rfl⟩) (by assumption) ?_
  simp only [Act.put, List.setIfInBounds_toArray, List.set_cons_zero, List.set_cons_succ]
  refine seq_take (v := undef) rfl (by kernel_rfl) (by kernel_rfl) (by kernel_rfl) (Or.inr ⟨by rfl, rfl⟩) (by assumption) ?_
  simp only [Act.put, List.setIfInBounds_toArray, List.set_cons_zero, List.set_cons_succ]
  refine seq_take (v := undef) rfl (by kernel_rfl) (by kernel_rfl) (by kernel_rfl) (Or.inr ⟨by rfl, rfl⟩) (by assumption) ?_
  simp only [Act.put, List.setIfInBounds_toArray, List.set_cons_zero, List.set_cons_succ]
  refine seq_take (v := ?_) rfl (by kernel_rfl) (by kernel_rfl) (by kernel_rfl) (Or.inl ⟨by rfl, fun w' hSw => ?_⟩) (by assumption) ?_
  rotate_left
  · go_simp
    with_reducible rfl
  simp only [Act.put, List.setIfInBounds_toArray, List.set_cons_zero, List.set_cons_succ]
  refine seq_take (v := ?_) rfl (by kernel_rfl) (by kernel_rfl) (by kernel_rfl) (Or.inl ⟨by rfl, fun w' hSw => ?_⟩) (by assumption) ?_
  rotate_left
  · go_simp
    with_reducible rfl
  simp only [Act.put, List.setIfInBounds_toArray, List.set_cons_zero, List.set_cons_succ]
  refine seq_take (v := ?_) rfl (by kernel_rfl) (by kernel_rfl) (by kernel_rfl) (Or.inl ⟨by rfl, fun w' hSw => ?_⟩) (by assumption) ?_
  rotate_left
  · go_simp
    with_reducible rfl
  simp only [Act.put, List.setIfInBounds_toArray, List.set_cons_zero, List.set_cons_succ]
  refine seq_do rfl (by kernel_rfl) (by rfl) (fun K hK => ?_)
  go_simp
  refine (fsure_any w5 (HC.out.1.keeps H5.out.2 (by simp)) (HC.out.2.keeps H5.out.2 (by simp))).mono ?_
  rintro e w6 ⟨rfl, hk6⟩
  have H6 := Lib.hid (show Two 25 w.heap.size (w.heap.size + 1) xs ys w6 ∧ Keeps [] w w6 from ⟨H5.out.1.keeps hk6 (by simp) (by simp), H5.out.2.trans hk6 (by simp)⟩)
  refine hK.out (Two 25 w.heap.size (w.heap.size + 1) xs ys) _ _ (fun _ h => h) H6.out.1 (fun hS => ?_)
  refine seq_take (v := ?_) rfl (by kernel_rfl) (by kernel_rfl) (by kernel_rfl) (Or.inl ⟨by rfl, fun w' hSw => ?_⟩) (by assumption) ?_
  rotate_left
  · go_simp
    with_reducible rfl
  simp only [Act.put, List.setIfInBounds_toArray, List.set_cons_zero, List.set_cons_succ]
  refine seq_take (v := ?_) rfl (by kernel_rfl) (by kernel_rfl) (by kernel_rfl) (Or.inl ⟨by rfl, fun w' hSw => ?_⟩) (by assumption) ?_
  rotate_left
  · go_simp
    with_reducible rfl
  simp only [Act.put, List.setIfInBounds_toArray, List.set_cons_zero, List.set_cons_succ]
  refine seq_done (by kernel_rfl) ?_
  all_goals skip
  go_wp2_with fail
  go_ret
  exact ⟨rfl, H6.out.2⟩
set_option maxRecDepth 100000 in
set_option maxHeartbeats 4000000 in
theorem fless_3 (x y : List UInt8) (w : World) (hc : Con w) (ht : HT w) (hx : x.length = 32) (hy : y.length = 32) (hB : Op.bytesLess x y = false) (hB2 : Op.bytesLess y x = false) (hxy : x = y) :
    Calls Tryd.prog 4 #[.agg (encB x).toArray, .agg (encB y).toArray] w fun e w' => e = .returned (.bool true) ∧ Keeps [] w w' := by
  have HB := Lib.hid hB
  have HB2 := Lib.hid hB2
  have HI := Lib.hid (show (Tryd.prog.info? 25).map (·.size) = some (encB x).length by rw [length_encB, hx]; exact infoPrF)
  have HJ := Lib.hid (show (Tryd.prog.info? 25).map (·.size) = some (encB y).length by rw [length_encB, hy]; exact infoPrF)
  have HX := Lib.hid hx
  have HY := Lib.hid hy
  have HC := Lib.hid (And.intro hc ht)
  have fe : ∀ v, (binOp .eql 25 (.agg (encB x).toArray) (.agg (encB y).toArray)).run Tryd.prog v = .ok (.bool true) v := fun v => by rw [← hxy]; exact eq_print v x HX.out
  have fg : ∀ y1 y2 v, (eqGuard .eql 25 y1 y2 (.agg (encB x).toArray) (.agg (encB y).toArray)).run Tryd.prog v = .ok () v := fun y1 y2 v => run_eqGuard_arr (P := Tryd.prog) v guard_pr .eql y1 y2 _ _
  obtain ⟨xs, hxs⟩ : ∃ xs, xs = encB x := ⟨_, rfl⟩
  obtain ⟨ys, hys⟩ : ∃ ys, ys = encB y := ⟨_, rfl⟩
  rw [← hxs, ← hys]
  rw [← hxs] at HI
  rw [← hys] at HJ
  rw [← hxs, ← hys] at fe fg
  have HXS := Lib.hid hxs
  have HYS := Lib.hid hys
  clear hx hy hxs hys hc ht hB hB2 hxy
  go_enter Tryd.func4, Tryd.ntmps4
  go_wp2_with fail
  obtain ⟨W, hW⟩ : ∃ W, W = (w.alloc (.cells xs.toArray 25)).alloc (.cells ys.toArray 25) := ⟨_, rfl⟩
  rw [← hW]
  have HW := Lib.hid (show Two 25 w.heap.size (w.heap.size + 1) xs ys W ∧ Keeps [] w W from by
    rw [hW]; exact ⟨⟨heap_alloc2_old _ _ _, heap_alloc2_new _ _ _⟩, ((Keeps.refl [] w).alloc _).alloc _⟩)
  clear hW
  refine seq_start (by kernel_rfl) (Two 25 w.heap.size (w.heap.size + 1) xs ys) 32 [0, 1, 2, 3, 4, 5, 6, 7, 8, 9, 10, 11, 12, 13, 14, 15, 16, 17, 18, 19, 20, 21, 22, 23, 24, 25, 26, 27, 28, 29, 30, 31] rfl (HW.out.1) (fun hS => ?_)
  have H0 := Lib.hid (show Two 25 w.heap.size (w.heap.size + 1) xs ys W.drew ∧ Keeps [] w W.drew from ⟨HW.out.1, HW.out.2.drew⟩)
  clear HW
  generalize W.drew = V at H0 hS ⊢
  refine seq_take (v := .agg xs.toArray) rfl (by kernel_rfl) (by kernel_rfl) (by kernel_rfl) ?_ (by assumption) ?_
  · exact yieldsIf_load_mid (by rfl) 25 (.tmp 2) (by rfl) w.heap.size 0 (by rfl) xs _ (fun z hz => rangeAt_rowF hz.1) Tryd.underlying25 rfl HI.out
  simp only [Act.put, List.setIfInBounds_toArray, List.set_cons_zero, List.set_cons_succ]
  refine seq_take (v := .agg ys.toArray) rfl (by kernel_rfl) (by kernel_rfl) (by kernel_rfl) ?_ (by assumption) ?_
  · exact yieldsIf_load_mid (by rfl) 25 (.tmp 3) (by rfl) (w.heap.size + 1) 0 (by rfl) ys _ (fun z hz => rangeAt_rowF hz.2) Tryd.underlying25 rfl HJ.out
  simp only [Act.put, List.setIfInBounds_toArray, List.set_cons_zero, List.set_cons_succ]
  iterate 1 (refine seq_later ?_; simp only [List.cons_append, List.nil_append])
  refine seq_take (v := .agg xs.toArray) rfl (by kernel_rfl) (by kernel_rfl) (by kernel_rfl) ?_ (by assumption) ?_
  · exact yieldsIf_load_mid (by rfl) 25 (.tmp 2) (by rfl) w.heap.size 0 (by rfl) xs _ (fun z hz => rangeAt_rowF hz.1) Tryd.underlying25 rfl HI.out
  simp only [Act.put, List.setIfInBounds_toArray, List.set_cons_zero, List.set_cons_succ]
  refine seq_take (v := .agg ys.toArray) rfl (by kernel_rfl) (by kernel_rfl) (by kernel_rfl) ?_ (by assumption) ?_
  · exact yieldsIf_load_mid (by rfl) 25 (.tmp 3) (by rfl) (w.heap.size + 1) 0 (by rfl) ys _ (fun z hz => rangeAt_rowF hz.2) Tryd.underlying25 rfl HJ.out
  simp only [Act.put, List.setIfInBounds_toArray, List.set_cons_zero, List.set_cons_succ]
  iterate 27 (refine seq_later ?_; simp only [List.cons_append, List.nil_append])
  refine seq_do rfl (by kernel_rfl) (by rfl) (fun K hK => ?_)
  go_simp
  rw [HXS.out, HYS.out]
  refine (less_any x y _ HX.out HY.out).mono ?_
  rintro e w1 ⟨rfl, hk1⟩
  rw [← HXS.out, ← HYS.out, HB.out]
  have H1 := Lib.hid (show Two 25 w.heap.size (w.heap.size + 1) xs ys w1 ∧ Keeps [] w w1 from ⟨H0.out.1.keeps hk1 (by simp) (by simp), H0.out.2.trans hk1 (by simp)⟩)
  clear hk1 H0
  refine hK.out (Two 25 w.heap.size (w.heap.size + 1) xs ys) _ _ (fun _ h => h) H1.out.1 (fun hS => ?_)
  refine seq_do rfl (by kernel_rfl) (by rfl) (fun K hK => ?_)
  go_simp
  rw [HXS.out, HYS.out]
  refine (refless_any x y _ HX.out HY.out).mono ?_
  rintro e w2 ⟨rfl, hk2⟩
  rw [← HXS.out, ← HYS.out, HB.out]
  have H2 := Lib.hid (show Two 25 w.heap.size (w.heap.size + 1) xs ys w2 ∧ Keeps [] w w2 from ⟨H1.out.1.keeps hk2 (by simp) (by simp), H1.out.2.trans hk2 (by simp)⟩)
  clear hk2 H1
  refine hK.out (Two 25 w.heap.size (w.heap.size + 1) xs ys) _ _ (fun _ h => h) H2.out.1 (fun hS => ?_)
  refine seq_take (v := ?_) rfl (by kernel_rfl) (by kernel_rfl) (by kernel_rfl) (Or.inl ⟨by rfl, fun w' hSw => ?_⟩) (by assumption) ?_
  rotate_left
  · go_simp
    with_reducible rfl
  simp only [Act.put, List.setIfInBounds_toArray, List.set_cons_zero, List.set_cons_succ]
  refine seq_take (v := ?_) rfl (by kernel_rfl) (by kernel_rfl) (by kernel_rfl) (Or.inl ⟨by rfl, fun w' hSw => ?_⟩) (by assumption) ?_
  rotate_left
  · go_simp
    with_reducible rfl
  simp only [Act.put, List.setIfInBounds_toArray, List.set_cons_zero, List.set_cons_succ]
  refine seq_take (v := .agg xs.toArray) rfl (by kernel_rfl) (by kernel_rfl) (by kernel_rfl) ?_ (by assumption) ?_
  · exact yieldsIf_load_mid (by rfl) 25 (.tmp 2) (by rfl) w.heap.size 0 (by rfl) xs _ (fun z hz => rangeAt_rowF hz.1) Tryd.underlying25 rfl HI.out
  simp only [Act.put, List.setIfInBounds_toArray, List.set_cons_zero, List.set_cons_succ]
  refine seq_take (v := .agg xs.toArray) rfl (by kernel_rfl) (by kernel_rfl) (by kernel_rfl) ?_ (by assumption) ?_
  · exact yieldsIf_load_mid (by rfl) 25 (.tmp 2) (by rfl) w.heap.size 0 (by rfl) xs _ (fun z hz => rangeAt_rowF hz.1) Tryd.underlying25 rfl HI.out
  simp only [Act.put, List.setIfInBounds_toArray, List.set_cons_zero, List.set_cons_succ]
  refine seq_do rfl (by kernel_rfl) (by rfl) (fun K hK => ?_)
  go_simp
  rw [HXS.out]
  refine (less_any x x _ HX.out HX.out).mono ?_
  rintro e w3 ⟨rfl, hk3⟩
  rw [bl_same]
  have H3 := Lib.hid (show Two 25 w.heap.size (w.heap.size + 1) xs ys w3 ∧ Keeps [] w w3 from ⟨H2.out.1.keeps hk3 (by simp) (by simp), H2.out.2.trans hk3 (by simp)⟩)
  clear hk3 H2
  refine hK.out (Two 25 w.heap.size (w.heap.size + 1) xs ys) _ _ (fun _ h => h) H3.out.1 (fun hS => ?_)
  refine seq_take (v := ?_) rfl (by kernel_rfl) (by kernel_rfl) (by kernel_rfl) (Or.inl ⟨by rfl, fun w' hSw => ?_⟩) (by assumption) ?_
  rotate_left
  · go_simp
    with_reducible rfl
  simp only [Act.put, List.setIfInBounds_toArray, List.set_cons_zero, List.set_cons_succ]
  refine seq_take (v := ?_) rfl (by kernel_rfl) (by kernel_rfl) (by kernel_rfl) (Or.inl ⟨by rfl, fun w' hSw => ?_⟩) (by assumption) ?_
  rotate_left
  · go_simp
    with_reducible rfl
  simp only [Act.put, List.setIfInBounds_toArray, List.set_cons_zero, List.set_cons_succ]
  refine seq_take (v := ?_) rfl (by kernel_rfl) (by kernel_rfl) (by kernel_rfl) (Or.inl ⟨by rfl, fun w' hSw => ?_⟩) (by assumption) ?_
  rotate_left
  · go_simp
    with_reducible rfl
  simp only [Act.put, List.setIfInBounds_toArray, List.set_cons_zero, List.set_cons_succ]
  refine seq_take (v := .agg xs.toArray) rfl (by kernel_rfl) (by kernel_rfl) (by kernel_rfl) ?_ (by assumption) ?_
  · exact yieldsIf_load_mid (by rfl) 25 (.tmp 2) (by rfl) w.heap.size 0 (by rfl) xs _ (fun z hz => rangeAt_rowF hz.1) Tryd.underlying25 rfl HI.out
  simp only [Act.put, List.setIfInBounds_toArray, List.set_cons_zero, List.set_cons_succ]
  refine seq_take (v := .agg ys.toArray) rfl (by kernel_rfl) (by kernel_rfl) (by kernel_rfl) ?_ (by assumption) ?_
  · exact yieldsIf_load_mid (by rfl) 25 (.tmp 3) (by rfl) (w.heap.size + 1) 0 (by rfl) ys _ (fun z hz => rangeAt_rowF hz.2) Tryd.underlying25 rfl HJ.out
  simp only [Act.put, List.setIfInBounds_toArray, List.set_cons_zero, List.set_cons_succ]
  refine seq_do rfl (by kernel_rfl) (by rfl) (fun K hK => ?_)
  go_simp
  rw [HXS.out, HYS.out]
  refine (less_any x y _ HX.out HY.out).mono ?_
  rintro e w4 ⟨rfl, hk4⟩
  rw [← HXS.out, ← HYS.out, HB.out]
  have H4 := Lib.hid (show Two 25 w.heap.size (w.heap.size + 1) xs ys w4 ∧ Keeps [] w w4 from ⟨H3.out.1.keeps hk4 (by simp) (by simp), H3.out.2.trans hk4 (by simp)⟩)
  clear hk4 H3
  refine hK.out (Two 25 w.heap.size (w.heap.size + 1) xs ys) _ _ (fun _ h => h) H4.out.1 (fun hS => ?_)
  refine seq_take (v := ?_) rfl (by kernel_rfl) (by kernel_rfl) (by kernel_rfl) (Or.inl ⟨by rfl, fun w' hSw => ?_⟩) (by assumption) ?_
  rotate_left
  · go_simp
    with_reducible rfl
  simp only [Act.put, List.setIfInBounds_toArray, List.set_cons_zero, List.set_cons_succ]
  refine seq_take (v := .agg ys.toArray) rfl (by kernel_rfl) (by kernel_rfl) (by kernel_rfl) ?_ (by assumption) ?_
  · exact yieldsIf_load_mid (by rfl) 25 (.tmp 3) (by rfl) (w.heap.size + 1) 0 (by rfl) ys _ (fun z hz => rangeAt_rowF hz.2) Tryd.underlying25 rfl HJ.out
  simp only [Act.put, List.setIfInBounds_toArray, List.set_cons_zero, List.set_cons_succ]
  refine seq_take (v := .agg xs.toArray) rfl (by kernel_rfl) (by kernel_rfl) (by kernel_rfl) ?_ (by assumption) ?_
  · exact yieldsIf_load_mid (by rfl) 25 (.tmp 2) (by rfl) w.heap.size 0 (by rfl) xs _ (fun z hz => rangeAt_rowF hz.1) Tryd.underlying25 rfl HI.out
  simp only [Act.put, List.setIfInBounds_toArray, List.set_cons_zero, List.set_cons_succ]
  refine seq_do rfl (by kernel_rfl) (by rfl) (fun K hK => ?_)
  go_simp
  rw [HXS.out, HYS.out]
  refine (less_any y x _ HY.out HX.out).mono ?_
  rintro e w5 ⟨rfl, hk5⟩
  rw [← HXS.out, ← HYS.out, HB2.out]
  have H5 := Lib.hid (show Two 25 w.heap.size (w.heap.size + 1) xs ys w5 ∧ Keeps [] w w5 from ⟨H4.out.1.keeps hk5 (by simp) (by simp), H4.out.2.trans hk5 (by simp)⟩)
  clear hk5 H4
  refine hK.out (Two 25 w.heap.size (w.heap.size + 1) xs ys) _ _ (fun _ h => h) H5.out.1 (fun hS => ?_)
  refine seq_take (v := ?_) rfl (by kernel_rfl) (by kernel_rfl) (by kernel_rfl) (Or.inl ⟨by rfl, fun w' hSw => ?_⟩) (by assumption) ?_
  rotate_left
  · go_simp
    with_reducible rfl
  simp only [Act.put, List.setIfInBounds_toArray, List.set_cons_zero, List.set_cons_succ]
  refine seq_take (v := ?_) rfl (by kernel_rfl) (by kernel_rfl) (by kernel_rfl) (Or.inl ⟨by rfl, fun w' hSw => ?_⟩) (by assumption) ?_
  rotate_left
  · go_simp
    with_reducible rfl
  simp only [Act.put, List.setIfInBounds_toArray, List.set_cons_zero, List.set_cons_succ]
  refine seq_take (v := .agg xs.toArray) rfl (by kernel_rfl) (by kernel_rfl) (by kernel_rfl) ?_ (by assumption) ?_
  · exact yieldsIf_load_mid (by rfl) 25 (.tmp 2) (by rfl) w.heap.size 0 (by rfl) xs _ (fun z hz => rangeAt_rowF hz.1) Tryd.underlying25 rfl HI.out
  simp only [Act.put, List.setIfInBounds_toArray, List.set_cons_zero, List.set_cons_succ]
  refine seq_take (v := .agg ys.toArray) rfl (by kernel_rfl) (by kernel_rfl) (by kernel_rfl) ?_ (by assumption) ?_
  · exact yieldsIf_load_mid (by rfl) 25 (.tmp 3) (by rfl) (w.heap.size + 1) 0 (by rfl) ys _ (fun z hz => rangeAt_rowF hz.2) Tryd.underlying25 rfl HJ.out
  simp only [Act.put, List.setIfInBounds_toArray, List.set_cons_zero, List.set_cons_succ]
  refine seq_take (v := .bool true) rfl (by kernel_rfl) (by kernel_rfl) (by kernel_rfl) ?_ (by assumption) ?_
  · exact yieldsIf_eqv (by rfl) 25 (.tmp 28) (.tmp 29) (by rfl) (.agg xs.toArray) (.agg ys.toArray) _ (by rfl) (by rfl) fe fg
  simp only [Act.put, List.setIfInBounds_toArray, List.set_cons_zero, List.set_cons_succ]
  refine seq_take (v := ?_) rfl (by kernel_rfl) (by kernel_rfl) (by kernel_rfl) (Or.inl ⟨by rfl, fun w' hSw => ?_⟩) (by assumption) ?_
  rotate_left
  · go_simp
    with_reducible rfl
  simp only [Act.put, List.setIfInBounds_toArray, List.set_cons_zero, List.set_cons_succ]
  refine seq_take (v := ?_) rfl (by kernel_rfl) (by kernel_rfl) (by kernel_rfl) (Or.inl ⟨by rfl, fun w' hSw => ?_⟩) (by assumption) ?_
  rotate_left
  · go_simp
    with_reducible rfl
  simp only [Act.put, List.setIfInBounds_toArray, List.set_cons_zero, List.set_cons_succ]
  refine seq_take (v := ?_) rfl (by kernel_rfl) (by kernel_rfl) (by kernel_rfl) (Or.inl ⟨by rfl, fun w' hSw => ?_⟩) (by assumption) ?_
  rotate_left
  · go_simp
    with_reducible rfl
  simp only [Act.put, List.setIfInBounds_toArray, List.set_cons_zero, List.set_cons_succ]
  refine seq_do rfl (by kernel_rfl) (by rfl) (fun K hK => ?_)
  go_simp
  refine (fsure_any w5 (HC.out.1.keeps H5.out.2 (by simp)) (HC.out.2.keeps H5.out.2 (by simp))).mono ?_
  rintro e w6 ⟨rfl, hk6⟩
  have H6 := Lib.hid (show Two 25 w.heap.size (w.heap.size + 1) xs ys w6 ∧ Keeps [] w w6 from ⟨H5.out.1.keeps hk6 (by simp) (by simp), H5.out.2.trans hk6 (by simp)⟩)
  refine hK.out (Two 25 w.heap.size (w.heap.size + 1) xs ys) _ _ (fun _ h => h) H6.out.1 (fun hS => ?_)
  refine seq_take (v := ?_) rfl (by kernel_rfl) (by kernel_rfl) (by kernel_rfl) (Or.inl ⟨by rfl, fun w' hSw => ?_⟩) (by assumption) ?_
  rotate_left
  · go_simp
    with_reducible rfl
  simp only [Act.put, List.setIfInBounds_toArray, List.set_cons_zero, List.set_cons_succ]
  refine seq_take (v := ?_) rfl (by kernel_rfl) (by kernel_rfl) (by kernel_rfl) (Or.inl ⟨by rfl, fun w' hSw => ?_⟩) (by assumption) ?_
  rotate_left
  · go_simp
    with_reducible rfl
  simp only [Act.put, List.setIfInBounds_toArray, List.set_cons_zero, List.set_cons_succ]
  refine seq_done (by kernel_rfl) ?_
  all_goals skip
  go_wp2_with fail
  go_ret
  exact ⟨rfl, H6.out.2⟩
theorem fless_any (x y : List UInt8) (w : World) (hc : Con w) (ht : HT w) (hx : x.length = 32) (hy : y.length = 32) :
    Calls Tryd.prog 4 #[.agg (encB x).toArray, .agg (encB y).toArray] w fun e w' => e = .returned (.bool true) ∧ Keeps [] w w' := by
  cases h1 : Op.bytesLess x y with
  | true => exact fless_1 x y w hc ht hx hy h1
  | false =>
    cases h2 : Op.bytesLess y x with
    | true => exact fless_2 x y w hc ht hx hy h1 h2
    | false =>
      refine fless_3 x y w hc ht hx hy h1 h2 ?_
      refine Classical.byContradiction fun hne => ?_
      have := bl_one x y hne
      rw [h1, h2] at this
      simp at this
theorem fless_row (xs ys : List Int) (w : World) (hh : Con w ∧ HT w) (ok1 : (K.arr 32 (K.int .u8)).ok w xs) (ok2 : (K.arr 32 (K.int .u8)).ok w ys) :
    Calls Tryd.prog 4 #[.agg ((K.arr 32 (K.int .u8)).cells xs).toArray, .agg ((K.arr 32 (K.int .u8)).cells ys).toArray] w fun e w' => e = .returned (.bool true) ∧ Below w.heap.size w w' := by
  obtain ⟨e1, e2⟩ := arrB_of_k ok1
  obtain ⟨e3, e4⟩ := arrB_of_k ok2
  rw [e1, e3]
  exact (fless_any (toB xs) (toB ys) w hh.1 hh.2 e2 e4).mono fun _ _ h => ⟨h.1, h.2.below (Nat.le_refl _) (by simp)⟩
end Go.Proofs.YtomleanoofoejaaDoor
