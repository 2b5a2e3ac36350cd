/- The law on kinds of fingerprints: called with any kind and any two blocks it answers true. -/
import Derived.Test.YtomleanoofoejaaDoorFingSure
import Derived.Test.YtomleanoofoejaaDoorFingRefOf
import Derived.Test.YtomleanoofoejaaDoorKecRefText
import Derived.Test.YtomleanoofoejaaDoorRw
import Derived.Test.YtomleanoofoejaaDoorKinds
namespace Go.Proofs.YtomleanoofoejaaDoor
open Go.RowKit
attribute [local irreducible] turnK outK absAll hexAll endK sqzTo hmore fpK errV ferr

set_option maxRecDepth 100000 in
set_option maxHeartbeats 8000000 in
theorem kinds_any (k : Int) (a b : List UInt8) (w : World) (hc : Con w) (ht : HT w) (ha : a.length = 64) (hb : b.length = 64) :
    Calls Tryd.prog 6 #[.int .i64 k, .agg (encB a).toArray, .agg (encB b).toArray] w fun e w' => e = .returned (.bool true) ∧ Keeps [] w w' := by
  have HA := Lib.hid ha
  have HB := Lib.hid hb
  have HC := Lib.hid (And.intro hc ht)
  have HZ := Lib.hid (show (#[.int .u8 0, .int .u8 0, .int .u8 0, .int .u8 0, .int .u8 0, .int .u8 0, .int .u8 0, .int .u8 0, .int .u8 0, .int .u8 0, .int .u8 0, .int .u8 0, .int .u8 0, .int .u8 0, .int .u8 0, .int .u8 0, .int .u8 0, .int .u8 0, .int .u8 0, .int .u8 0, .int .u8 0, .int .u8 0, .int .u8 0, .int .u8 0, .int .u8 0, .int .u8 0, .int .u8 0, .int .u8 0, .int .u8 0, .int .u8 0, .int .u8 0, .int .u8 0] : Array Value) = (encB z32).toArray from zero32k)
  have HIA := Lib.hid (show (Tryd.prog.info? 23).map (·.size) = some (encB a).toArray.size by rw [List.size_toArray, length_encB, ha]; exact infoBlkF)
  have HIB := Lib.hid (show (Tryd.prog.info? 23).map (·.size) = some (encB b).toArray.size by rw [List.size_toArray, length_encB, hb]; exact infoBlkF)
  obtain ⟨x, hx⟩ : ∃ x, x = fpK k a := ⟨_, rfl⟩
  have HLx := Lib.hid (show x.length = 32 by rw [hx]; exact fpK_len _ _)
  have HQx := Lib.hid hx
  have HIx := Lib.hid (show (Tryd.prog.info? 25).map (·.size) = some (encB x).length by rw [length_encB, HLx.out]; exact infoPrF)
  have HNx := Lib.hid (show (Tryd.prog.info? 25).map (·.size) = some (encB x).toArray.size by rw [List.size_toArray]; exact HIx.out)
  have HOx := Lib.hid (encB_one x)
  have HCx := Lib.hid (show (encB z32).length = (encB x).length by rw [length_encB, length_encB, HLx.out, z32_len])
  obtain ⟨y, hy⟩ : ∃ y, y = fpK k b := ⟨_, rfl⟩
  have HLy := Lib.hid (show y.length = 32 by rw [hy]; exact fpK_len _ _)
  have HQy := Lib.hid hy
  have HIy := Lib.hid (show (Tryd.prog.info? 25).map (·.size) = some (encB y).length by rw [length_encB, HLy.out]; exact infoPrF)
  have HNy := Lib.hid (show (Tryd.prog.info? 25).map (·.size) = some (encB y).toArray.size by rw [List.size_toArray]; exact HIy.out)
  have HOy := Lib.hid (encB_one y)
  have HCy := Lib.hid (show (encB z32).length = (encB y).length by rw [length_encB, length_encB, HLy.out, z32_len])
  have fe := fun v => eq_print v x HLx.out
  have fg := fun y1 y2 v => run_eqGuard_arr (P := Tryd.prog) v guard_pr .eql y1 y2 (encB x).toArray (encB x).toArray
  obtain ⟨n, hn⟩ : ∃ n, n = ferr k := ⟨_, rfl⟩
  have HNN := Lib.hid hn
  obtain ⟨xs, hxs⟩ : ∃ v, v = encB x := ⟨_, rfl⟩
  rw [← hxs] at HIx HNx HOx HCx fe fg
  have HSx := Lib.hid hxs
  obtain ⟨ys, hys⟩ : ∃ v, v = encB y := ⟨_, rfl⟩
  rw [← hys] at HIy HNy HOy HCy 
  have HSy := Lib.hid hys
  obtain ⟨ra, hra⟩ : ∃ v, v = encB a := ⟨_, rfl⟩
  obtain ⟨bs, hbs⟩ : ∃ v, v = encB b := ⟨_, rfl⟩
  rw [← hra] at HIA ⊢
  rw [← hbs] at HIB ⊢
  have HAS := Lib.hid hra
  have HBS := Lib.hid hbs
  clear hc ht ha hb hx hy hn hxs hys hra hbs
  go_enter Tryd.func6, Tryd.ntmps6
  go_upto_region 1 with fail
  obtain ⟨W, hW⟩ : ∃ W, W = (w.alloc (.cells ra.toArray 23)).alloc (.cells bs.toArray 23) := ⟨_, rfl⟩
  rw [← hW]
  have HW := Lib.hid (show Rw [(w.heap.size, 23, ra), (w.heap.size + 1, 23, bs)] W ∧ Keeps [] w W from by
    rw [hW]
    refine ⟨(((Rw.nil w).alloc ra 23).alloc bs 23).sub (fun r hr => ?_), ((Keeps.refl [] w).alloc _).alloc _⟩
    simp at hr ⊢
    rcases hr with rfl | rfl <;> simp)
  clear hW
  go_wp2_with (refine wpList_load_row rfl 23 (.tmp 4) rfl w.heap.size rfl 23 ra.toArray (0, 0) _ (HW.out.1 _ (List.mem_cons_self)) Tryd.underlying23 rfl HIA.out ?_)
  rw [HAS.out]
  refine (of_any k a _ HA.out (HC.out.1.keeps HW.out.2 (by simp))).mono ?_
  rintro e w1 ⟨rfl, hk1⟩
  rw [← HQx.out, ← HSx.out, ← HAS.out, ← HNN.out]
  obtain ⟨ev, hev⟩ : ∃ ev, ev = errV n := ⟨_, rfl⟩
  rw [← hev]
  have HEV := Lib.hid hev
  have H1 := Lib.hid (And.intro (HW.out.1.keeps0 hk1) (HW.out.2.trans hk1 (by simp)))
  clear hk1 HW hev
  obtain ⟨g1, hg1⟩ : ∃ g, g = w1.heap.size := ⟨_, rfl⟩
  have HG1 := Lib.hid hg1
  clear hg1
  go_wp2_with (first
    | (refine wpList_load_row rfl 23 (.tmp 4) rfl w.heap.size rfl 23 ra.toArray (0, 0) _ (H2.out.1 (w.heap.size, 23, ra) (by simp)) Tryd.underlying23 rfl HIA.out ?_)
    | (refine wpList_store_rowK rfl 25 (.tmp 7) (.tmp 17) rfl w1.heap.size xs (encB z32) 25 rfl rfl (by rw [HZ.out]; exact heap_alloc_new _ _) HCx.out HIx.out HOx.out ?_
       intro w2 h2 hk2
       have e2 := And.intro (H1.out.1.new hk2 h2.out) (H1.out.2.new hk2)
       rw [← HG1.out] at e2
       have H2 := Lib.hid e2
       clear h2 hk2 e2
       rw [← HG1.out]))
  rw [HAS.out]
  refine (rof_any k a w2 HA.out).mono ?_
  rintro e w3 ⟨rfl, hk3⟩
  rw [← HQx.out, ← HSx.out, ← HAS.out, ← HNN.out]
  have H3 := Lib.hid (And.intro (H2.out.1.keeps0 hk3) (H2.out.2.trans hk3 (by simp)))
  clear hk3 H1
  obtain ⟨g2, hg2⟩ : ∃ g, g = w3.heap.size := ⟨_, rfl⟩
  have HG2 := Lib.hid hg2
  clear hg2
  go_wp2_with (first
    | (refine wpList_load_row rfl 23 (.tmp 5) rfl (w.heap.size + 1) rfl 23 bs.toArray (0, 0) _ (H4.out.1 (w.heap.size + 1, 23, bs) (by simp)) Tryd.underlying23 rfl HIB.out ?_)
    | (refine wpList_store_rowK rfl 25 (.tmp 9) (.tmp 23) rfl w3.heap.size xs (encB z32) 25 rfl rfl (by rw [HZ.out]; exact heap_alloc_new _ _) HCx.out HIx.out HOx.out ?_
       intro w4 h4 hk4
       have e4 := And.intro (H3.out.1.new hk4 h4.out) (H3.out.2.new hk4)
       rw [← HG2.out] at e4
       have H4 := Lib.hid e4
       clear h4 hk4 e4
       rw [← HG2.out]))
  rw [HBS.out]
  refine (rof_any k b w4 HB.out).mono ?_
  rintro e w5 ⟨rfl, hk5⟩
  rw [← HQy.out, ← HSy.out, ← HBS.out, ← HNN.out]
  have H5 := Lib.hid (And.intro (H4.out.1.keeps0 hk5) (H4.out.2.trans hk5 (by simp)))
  clear hk5 H3
  obtain ⟨g3, hg3⟩ : ∃ g, g = w5.heap.size := ⟨_, rfl⟩
  have HG3 := Lib.hid hg3
  clear hg3
  go_wp2_with (first
    | (refine wpList_store_rowK rfl 25 (.tmp 11) (.tmp 29) rfl w5.heap.size ys (encB z32) 25 rfl rfl (by rw [HZ.out]; exact heap_alloc_new _ _) HCy.out HIy.out HOy.out ?_
       intro w6 h6 hk6
       have e6 := And.intro (H5.out.1.new hk6 h6.out) (H5.out.2.new hk6)
       rw [← HG3.out] at e6
       have H6 := Lib.hid e6
       clear h6 hk6 e6
       rw [← HG3.out]))
  have H7 := Lib.hid (show Rw [(g1, 25, xs), (g2, 25, xs), (g3, 25, ys)] w6 ∧ Keeps [] w w6 from ⟨H6.out.1.sub (fun r hr => by simp at hr ⊢; rcases hr with rfl | rfl | rfl <;> simp), H6.out.2⟩)
  clear H6 H5 H4 H2
  have F := fun z (hz : Rw [(g1, 25, xs), (g2, 25, xs), (g3, 25, ys)] z) => run_conv_str (P := Tryd.prog) z Tryd.underlying35 Tryd.underlying5 Tryd.underlying9 (A := some ⟨g2, 0, none⟩) (l := x) ⟨by simp, fun _ => ⟨_, rfl, fun j u hu => by rw [add_new, Nat.zero_add, cell_of_row _ _ _ _ _ _ (hz (g2, 25, xs) (by simp)), List.getElem?_toArray, HSx.out]; exact hu⟩⟩ 32
  rw [HLx.out] at F
  refine seq_start (by kernel_rfl) (Rw [(g1, 25, xs), (g2, 25, xs), (g3, 25, ys)]) 36 [0, 1, 2, 3, 4, 5, 6, 7, 8, 9, 10, 11, 12, 13, 14, 15, 16, 17, 18, 19, 20, 21, 22, 23, 24, 25, 26, 27, 28, 29, 30, 31, 32, 33, 34, 35] rfl (H7.out.1) (fun hS => ?_)
  have H8 := Lib.hid (show Rw [(g1, 25, xs), (g2, 25, xs), (g3, 25, ys)] w6.drew ∧ Keeps [] w w6.drew from ⟨H7.out.1, H7.out.2.drew⟩)
  clear H7
  generalize w6.drew = V at H8 hS ⊢
  refine seq_take (v := .agg xs.toArray) rfl (by kernel_rfl) (by kernel_rfl) (by kernel_rfl) ?_ (by assumption) ?_
  · exact yieldsIf_load_mid (by rfl) 25 (.tmp 7) (by rfl) g1 0 (by rfl) xs _ (fun z hz => rangeAt_rowF (hz (g1, 25, xs) (by simp))) Tryd.underlying25 rfl HIx.out
  simp only [Act.put, List.setIfInBounds_toArray, List.set_cons_zero, List.set_cons_succ]
  refine seq_take (v := .agg xs.toArray) rfl (by kernel_rfl) (by kernel_rfl) (by kernel_rfl) ?_ (by assumption) ?_
  · exact yieldsIf_load_mid (by rfl) 25 (.tmp 9) (by rfl) g2 0 (by rfl) xs _ (fun z hz => rangeAt_rowF (hz (g2, 25, xs) (by simp))) Tryd.underlying25 rfl HIx.out
  simp only [Act.put, List.setIfInBounds_toArray, List.set_cons_zero, List.set_cons_succ]
  refine seq_take (v := .bool true) rfl (by kernel_rfl) (by kernel_rfl) (by kernel_rfl) ?_ (by assumption) ?_
  · exact yieldsIf_eqv (by rfl) 25 (.tmp 31) (.tmp 32) (by rfl) (.agg xs.toArray) (.agg xs.toArray) _ (by rfl) (by rfl) fe fg
  simp only [Act.put, List.setIfInBounds_toArray, List.set_cons_zero, List.set_cons_succ]
  refine seq_take (v := ?_) rfl (by kernel_rfl) (by kernel_rfl) (by kernel_rfl) (Or.inl ⟨by rfl, fun w' hSw => ?_⟩) (by assumption) ?_
  rotate_left
  · go_simp
    with_reducible rfl
  simp only [Act.put, List.setIfInBounds_toArray, List.set_cons_zero, List.set_cons_succ]
  refine seq_take (v := ?_) rfl (by kernel_rfl) (by kernel_rfl) (by kernel_rfl) (Or.inl ⟨by rfl, fun w' hSw => ?_⟩) (by assumption) ?_
  rotate_left
  · go_simp
    with_reducible rfl
  simp only [Act.put, List.setIfInBounds_toArray, List.set_cons_zero, List.set_cons_succ]
  iterate 1 (refine seq_later ?_; simp only [List.cons_append, List.nil_append])
  refine seq_take (v := ?_) rfl (by kernel_rfl) (by kernel_rfl) (by kernel_rfl) (Or.inl ⟨by rfl, fun w' hSw => ?_⟩) (by assumption) ?_
  rotate_left
  · go_simp
    with_reducible rfl
  simp only [Act.put, List.setIfInBounds_toArray, List.set_cons_zero, List.set_cons_succ]
  iterate 29 (refine seq_later ?_; simp only [List.cons_append, List.nil_append])
  refine seq_do rfl (by kernel_rfl) (by rfl) (fun K hK => ?_)
  go_simp
  rw [HEV.out]
  refine (num_any n V (HC.out.2.keeps H8.out.2 (by simp))).mono ?_
  rintro e w9 ⟨rfl, hk9⟩
  have H9 := Lib.hid (And.intro (H8.out.1.keeps0 hk9) (H8.out.2.trans hk9 (by simp)))
  clear hk9 H8
  refine hK.out (Rw [(g1, 25, xs), (g2, 25, xs), (g3, 25, ys)]) _ _ (fun _ h => h) H9.out.1 (fun hS => ?_)
  refine seq_take (v := ?_) rfl (by kernel_rfl) (by kernel_rfl) (by kernel_rfl) (Or.inl ⟨by rfl, fun w' hSw => ?_⟩) (by assumption) ?_
  rotate_left
  · go_simp
    with_reducible rfl
  simp only [Act.put, List.setIfInBounds_toArray, List.set_cons_zero, List.set_cons_succ]
  refine seq_take (v := ?_) rfl (by kernel_rfl) (by kernel_rfl) (by kernel_rfl) (Or.inl ⟨by rfl, fun w' hSw => ?_⟩) (by assumption) ?_
  rotate_left
  · go_simp
    with_reducible rfl
  simp only [Act.put, List.setIfInBounds_toArray, List.set_cons_zero, List.set_cons_succ]
  refine seq_take (v := ?_) rfl (by kernel_rfl) (by kernel_rfl) (by kernel_rfl) (Or.inl ⟨by rfl, fun w' hSw => ?_⟩) (by assumption) ?_
  rotate_left
  · go_simp
    with_reducible rfl
  simp only [Act.put, List.setIfInBounds_toArray, List.set_cons_zero, List.set_cons_succ]
  refine seq_take (v := .agg xs.toArray) rfl (by kernel_rfl) (by kernel_rfl) (by kernel_rfl) ?_ (by assumption) ?_
  · exact yieldsIf_load_mid (by rfl) 25 (.tmp 7) (by rfl) g1 0 (by rfl) xs _ (fun z hz => rangeAt_rowF (hz (g1, 25, xs) (by simp))) Tryd.underlying25 rfl HIx.out
  simp only [Act.put, List.setIfInBounds_toArray, List.set_cons_zero, List.set_cons_succ]
  iterate 1 (refine seq_later ?_; simp only [List.cons_append, List.nil_append])
  refine seq_take (v := .agg xs.toArray) rfl (by kernel_rfl) (by kernel_rfl) (by kernel_rfl) ?_ (by assumption) ?_
  · exact yieldsIf_load_mid (by rfl) 25 (.tmp 9) (by rfl) g2 0 (by rfl) xs _ (fun z hz => rangeAt_rowF (hz (g2, 25, xs) (by simp))) Tryd.underlying25 rfl HIx.out
  simp only [Act.put, List.setIfInBounds_toArray, List.set_cons_zero, List.set_cons_succ]
  iterate 23 (refine seq_later ?_; simp only [List.cons_append, List.nil_append])
  refine seq_do rfl (by kernel_rfl) (by rfl) (fun K hK => ?_)
  go_simp
  rw [HSx.out]
  refine (ftext_any x w9 HLx.out).mono ?_
  rintro e w10 ⟨rfl, hk10⟩
  rw [← HSx.out]
  obtain ⟨tx, htx⟩ : ∃ tx, tx = hexAll x := ⟨_, rfl⟩
  rw [← htx]
  have HTX := Lib.hid htx
  clear htx
  have H10 := Lib.hid (And.intro (H9.out.1.keeps0 hk10) (H9.out.2.trans hk10 (by simp)))
  clear hk10 H9
  refine hK.out (Rw [(g1, 25, xs), (g2, 25, xs), (g3, 25, ys)]) _ _ (fun _ h => h) H10.out.1 (fun hS => ?_)
  refine seq_do rfl (by kernel_rfl) (by rfl) (fun K hK => ?_)
  go_simp
  rw [HSx.out]
  refine (reftext_any x w10 HLx.out).mono ?_
  rintro e w11 ⟨rfl, hk11⟩
  rw [← HSx.out, ← HTX.out]
  have H11 := Lib.hid (And.intro (H10.out.1.keeps0 hk11) (H10.out.2.trans hk11 (by simp)))
  clear hk11 H10
  refine hK.out (Rw [(g1, 25, xs), (g2, 25, xs), (g3, 25, ys)]) _ _ (fun _ h => h) H11.out.1 (fun hS => ?_)
  refine seq_take (v := ?_) rfl (by kernel_rfl) (by kernel_rfl) (by kernel_rfl) (Or.inl ⟨by rfl, fun w' hSw => ?_⟩) (by assumption) ?_
  rotate_left
  · go_simp
    with_reducible rfl
  simp only [Act.put, List.setIfInBounds_toArray, List.set_cons_zero, List.set_cons_succ]
  refine seq_take (v := ?_) rfl (by kernel_rfl) (by kernel_rfl) (by kernel_rfl) (Or.inl ⟨by rfl, fun w' hSw => ?_⟩) (by assumption) ?_
  rotate_left
  · go_simp
    with_reducible rfl
  simp only [Act.put, List.setIfInBounds_toArray, List.set_cons_zero, List.set_cons_succ]
  refine seq_take (v := ?_) rfl (by kernel_rfl) (by kernel_rfl) (by kernel_rfl) (Or.inl ⟨by rfl, fun w' hSw => ?_⟩) (by assumption) ?_
  rotate_left
  · go_simp
    with_reducible rfl
  simp only [Act.put, List.setIfInBounds_toArray, List.set_cons_zero, List.set_cons_succ]
  refine seq_take (v := .agg xs.toArray) rfl (by kernel_rfl) (by kernel_rfl) (by kernel_rfl) ?_ (by assumption) ?_
  · exact yieldsIf_load_mid (by rfl) 25 (.tmp 7) (by rfl) g1 0 (by rfl) xs _ (fun z hz => rangeAt_rowF (hz (g1, 25, xs) (by simp))) Tryd.underlying25 rfl HIx.out
  simp only [Act.put, List.setIfInBounds_toArray, List.set_cons_zero, List.set_cons_succ]
  iterate 1 (refine seq_later ?_; simp only [List.cons_append, List.nil_append])
  refine seq_take (v := .slice (some ⟨g2, 0, none⟩) 32 32) rfl (by kernel_rfl) (by kernel_rfl) (by kernel_rfl) ?_ (by assumption) ?_
  · exact yieldsIf_allArr (by rfl) 25 (.tmp 9) (by rfl) Tryd.underlying25 infoB1f ⟨g2, 0, none⟩ (by rfl)
  simp only [Act.put, List.setIfInBounds_toArray, List.set_cons_zero, List.set_cons_succ]
  refine seq_take (v := ?_) rfl (by kernel_rfl) (by kernel_rfl) (by kernel_rfl) (Or.inl ⟨by rfl, fun w' hSw => ?_⟩) (by assumption) ?_
  rotate_left
  · go_simp
    with_reducible rfl
  simp only [Act.put, List.setIfInBounds_toArray, List.set_cons_zero, List.set_cons_succ]
  iterate 15 (refine seq_later ?_; simp only [List.cons_append, List.nil_append])
  refine seq_do rfl (by kernel_rfl) (by rfl) (fun K hK => ?_)
  go_simp
  rw [HSx.out]
  refine (key_any x w11 HLx.out).mono ?_
  rintro e w12 ⟨rfl, hk12⟩
  rw [← HSx.out]
  have H12 := Lib.hid (And.intro (H11.out.1.keeps0 hk12) (H11.out.2.trans hk12 (by simp)))
  clear hk12 H11
  refine hK.out (Rw [(g1, 25, xs), (g2, 25, xs), (g3, 25, ys)]) _ _ (fun _ h => h) H12.out.1 (fun hS => ?_)
  refine seq_take (v := ?_) rfl (by kernel_rfl) (by kernel_rfl) (by kernel_rfl) (Or.inl ⟨by rfl, fun w' hSw => ?_⟩) (by assumption) ?_
  rotate_left
  · go_simp
    with_reducible rfl
  simp only [Act.put, List.setIfInBounds_toArray, List.set_cons_zero, List.set_cons_succ]
  refine seq_take (v := ?_) rfl (by kernel_rfl) (by kernel_rfl) (by kernel_rfl) (Or.inl ⟨by rfl, fun w' hSw => ?_⟩) (by assumption) ?_
  rotate_left
  · go_simp
    with_reducible rfl
  simp only [Act.put, List.setIfInBounds_toArray, List.set_cons_zero, List.set_cons_succ]
  refine seq_take (v := ?_) rfl (by kernel_rfl) (by kernel_rfl) (by kernel_rfl) (Or.inl ⟨by rfl, fun w' hSw => ?_⟩) (by assumption) ?_
  rotate_left
  · go_simp
    with_reducible rfl
  simp only [Act.put, List.setIfInBounds_toArray, List.set_cons_zero, List.set_cons_succ]
  refine seq_take (v := .agg xs.toArray) rfl (by kernel_rfl) (by kernel_rfl) (by kernel_rfl) ?_ (by assumption) ?_
  · exact yieldsIf_load_mid (by rfl) 25 (.tmp 7) (by rfl) g1 0 (by rfl) xs _ (fun z hz => rangeAt_rowF (hz (g1, 25, xs) (by simp))) Tryd.underlying25 rfl HIx.out
  simp only [Act.put, List.setIfInBounds_toArray, List.set_cons_zero, List.set_cons_succ]
  refine seq_take (v := .agg ys.toArray) rfl (by kernel_rfl) (by kernel_rfl) (by kernel_rfl) ?_ (by assumption) ?_
  · exact yieldsIf_load_mid (by rfl) 25 (.tmp 11) (by rfl) g3 0 (by rfl) ys _ (fun z hz => rangeAt_rowF (hz (g3, 25, ys) (by simp))) Tryd.underlying25 rfl HIy.out
  simp only [Act.put, List.setIfInBounds_toArray, List.set_cons_zero, List.set_cons_succ]
  iterate 1 (refine seq_later ?_; simp only [List.cons_append, List.nil_append])
  refine seq_take (v := .agg xs.toArray) rfl (by kernel_rfl) (by kernel_rfl) (by kernel_rfl) ?_ (by assumption) ?_
  · exact yieldsIf_load_mid (by rfl) 25 (.tmp 9) (by rfl) g2 0 (by rfl) xs _ (fun z hz => rangeAt_rowF (hz (g2, 25, xs) (by simp))) Tryd.underlying25 rfl HIx.out
  simp only [Act.put, List.setIfInBounds_toArray, List.set_cons_zero, List.set_cons_succ]
  refine seq_take (v := .agg ys.toArray) rfl (by kernel_rfl) (by kernel_rfl) (by kernel_rfl) ?_ (by assumption) ?_
  · exact yieldsIf_load_mid (by rfl) 25 (.tmp 11) (by rfl) g3 0 (by rfl) ys _ (fun z hz => rangeAt_rowF (hz (g3, 25, ys) (by simp))) Tryd.underlying25 rfl HIy.out
  simp only [Act.put, List.setIfInBounds_toArray, List.set_cons_zero, List.set_cons_succ]
  iterate 7 (refine seq_later ?_; simp only [List.cons_append, List.nil_append])
  refine seq_do rfl (by kernel_rfl) (by rfl) (fun K hK => ?_)
  go_simp
  rw [HSx.out, HSy.out]
  refine (less_any x y w12 HLx.out HLy.out).mono ?_
  rintro e w13 ⟨rfl, hk13⟩
  rw [← HSx.out, ← HSy.out]
  obtain ⟨B, hB⟩ : ∃ B, B = Op.bytesLess x y := ⟨_, rfl⟩
  rw [← hB]
  have HBB := Lib.hid hB
  clear hB
  have H13 := Lib.hid (And.intro (H12.out.1.keeps0 hk13) (H12.out.2.trans hk13 (by simp)))
  clear hk13 H12
  refine hK.out (Rw [(g1, 25, xs), (g2, 25, xs), (g3, 25, ys)]) _ _ (fun _ h => h) H13.out.1 (fun hS => ?_)
  refine seq_do rfl (by kernel_rfl) (by rfl) (fun K hK => ?_)
  go_simp
  rw [HSx.out, HSy.out]
  refine (refless_any x y w13 HLx.out HLy.out).mono ?_
  rintro e w14 ⟨rfl, hk14⟩
  rw [← HSx.out, ← HSy.out, ← HBB.out]
  have H14 := Lib.hid (And.intro (H13.out.1.keeps0 hk14) (H13.out.2.trans hk14 (by simp)))
  clear hk14 H13
  refine hK.out (Rw [(g1, 25, xs), (g2, 25, xs), (g3, 25, ys)]) _ _ (fun _ h => h) H14.out.1 (fun hS => ?_)
  refine seq_take (v := ?_) rfl (by kernel_rfl) (by kernel_rfl) (by kernel_rfl) (Or.inl ⟨by rfl, fun w' hSw => ?_⟩) (by assumption) ?_
  rotate_left
  · go_simp
    with_reducible rfl
  simp only [Act.put, List.setIfInBounds_toArray, List.set_cons_zero, List.set_cons_succ]
  refine seq_take (v := ?_) rfl (by kernel_rfl) (by kernel_rfl) (by kernel_rfl) (Or.inl ⟨by rfl, fun w' hSw => ?_⟩) (by assumption) ?_
  rotate_left
  · go_simp
    with_reducible rfl
  simp only [Act.put, List.setIfInBounds_toArray, List.set_cons_zero, List.set_cons_succ]
  refine seq_take (v := ?_) rfl (by kernel_rfl) (by kernel_rfl) (by kernel_rfl) (Or.inl ⟨by rfl, fun w' hSw => ?_⟩) (by assumption) ?_
  rotate_left
  · go_simp
    with_reducible rfl
  simp only [Act.put, List.setIfInBounds_toArray, List.set_cons_zero, List.set_cons_succ]
  refine seq_do rfl (by kernel_rfl) (by rfl) (fun K hK => ?_)
  go_simp
  refine (fsure_any w14 (HC.out.1.keeps H14.out.2 (by simp)) (HC.out.2.keeps H14.out.2 (by simp))).mono ?_
  rintro e w15 ⟨rfl, hk15⟩
  have H15 := Lib.hid (And.intro (H14.out.1.keeps0 hk15) (H14.out.2.trans hk15 (by simp)))
  clear hk15 H14
  refine hK.out (Rw [(g1, 25, xs), (g2, 25, xs), (g3, 25, ys)]) _ _ (fun _ h => h) H15.out.1 (fun hS => ?_)
  refine seq_take (v := ?_) rfl (by kernel_rfl) (by kernel_rfl) (by kernel_rfl) (Or.inl ⟨by rfl, fun w' hSw => ?_⟩) (by assumption) ?_
  rotate_left
  · go_simp
    with_reducible rfl
  simp only [Act.put, List.setIfInBounds_toArray, List.set_cons_zero, List.set_cons_succ]
  refine seq_take (v := ?_) rfl (by kernel_rfl) (by kernel_rfl) (by kernel_rfl) (Or.inl ⟨by rfl, fun w' hSw => ?_⟩) (by assumption) ?_
  rotate_left
  · go_simp
    with_reducible rfl
  simp only [Act.put, List.setIfInBounds_toArray, List.set_cons_zero, List.set_cons_succ]
  refine seq_done (by kernel_rfl) ?_
  all_goals skip
  go_wp2_with fail
  go_ret
  exact ⟨rfl, H15.out.2⟩
theorem kinds_row (k : Int) (xs ys : List Int) (w : World) (hh : Con w ∧ HT w) (ok1 : (K.arr 64 (K.int .u8)).ok w xs) (ok2 : (K.arr 64 (K.int .u8)).ok w ys) :
    Calls Tryd.prog 6 #[.int .i64 k, .agg ((K.arr 64 (K.int .u8)).cells xs).toArray, .agg ((K.arr 64 (K.int .u8)).cells ys).toArray] w fun e w' => e = .returned (.bool true) ∧ Below w.heap.size w w' := by
  obtain ⟨e1, e2⟩ := arrB_of_k ok1
  obtain ⟨e3, e4⟩ := arrB_of_k ok2
  rw [e1, e3]
  exact (kinds_any k (toB xs) (toB ys) w hh.1 hh.2 e2 e4).mono fun _ _ h => ⟨h.1, h.2.below (Nat.le_refl _) (by simp)⟩
end Go.Proofs.YtomleanoofoejaaDoor
