/- The law on strong fingerprints: called with any block it answers true. -/
import Derived.Test.YtomleanoofoejaaDoorFingSure
import Derived.Test.YtomleanoofoejaaDoorKecRefText
import Derived.Test.YtomleanoofoejaaDoorKinds
namespace Go.Proofs.YtomleanoofoejaaDoor
open Go.RowKit
attribute [local irreducible] turnK outK absAll hexAll endK sqzTo hmore

set_option maxRecDepth 100000 in
set_option maxHeartbeats 4000000 in
theorem strong_any (b : List UInt8) (w : World) (hc : Con w) (ht : HT w) (hb : b.length = 64) :
    Calls Tryd.prog 5 #[.agg (encB b).toArray] w fun e w' => e = .returned (.bool true) ∧ Keeps [] w w' := by
  have HB := Lib.hid hb
  have HC := Lib.hid (And.intro hc ht)
  have HZ := Lib.hid (show (#[.int .u8 0, .int .u8 0, .int .u8 0, .int .u8 0, .int .u8 0, .int .u8 0, .int .u8 0, .int .u8 0, .int .u8 0, .int .u8 0, .int .u8 0, .int .u8 0, .int .u8 0, .int .u8 0, .int .u8 0, .int .u8 0, .int .u8 0, .int .u8 0, .int .u8 0, .int .u8 0, .int .u8 0, .int .u8 0, .int .u8 0, .int .u8 0, .int .u8 0, .int .u8 0, .int .u8 0, .int .u8 0, .int .u8 0, .int .u8 0, .int .u8 0, .int .u8 0] : Array Value) = (encB z32).toArray from zero32k)
  have HIB := Lib.hid (show (Tryd.prog.info? 23).map (·.size) = some (encB b).toArray.size by rw [List.size_toArray, length_encB, hb]; exact infoBlkF)
  obtain ⟨x, hx⟩ : ∃ x, x = fpK 0 b := ⟨_, rfl⟩
  have HXL := Lib.hid (show x.length = 32 by rw [hx]; exact fpK_len 0 b)
  have HXK := Lib.hid (show outK (absAll beginK b) 6 32 = x by rw [hx]; rfl)
  have HX := Lib.hid hx
  have HI := Lib.hid (show (Tryd.prog.info? 25).map (·.size) = some (encB x).length by rw [length_encB, HXL.out]; exact infoPrF)
  have HON := Lib.hid (encB_one x)
  have HCL := Lib.hid (show (encB z32).length = (encB x).length by rw [length_encB, length_encB, HXL.out, z32_len])
  have fe := fun v => eq_print v x HXL.out
  have fg := fun y1 y2 v => run_eqGuard_arr (P := Tryd.prog) v guard_pr .eql y1 y2 (encB x).toArray (encB x).toArray
  obtain ⟨xs, hxs⟩ : ∃ xs, xs = encB x := ⟨_, rfl⟩
  rw [← hxs] at HI HON HCL fe fg
  have HXS := Lib.hid hxs
  obtain ⟨bs, hbs⟩ : ∃ bs, bs = (encB b).toArray := ⟨_, rfl⟩
  rw [← hbs] at HIB ⊢
  have HBS := Lib.hid hbs
  clear hb hc ht hx hxs hbs
  go_enter Tryd.func5, Tryd.ntmps5
  go_wp2_with (refine wpList_load_row rfl 23 (.tmp 1) rfl w.heap.size rfl 23 bs (0, 0) _ (heap_alloc_new _ _) Tryd.underlying23 rfl HIB.out ?_)
  rw [HBS.out]
  refine (of_any 0 b _ HB.out (HC.out.1.keeps ((Keeps.refl [] w).alloc _) (by simp))).mono ?_
  rintro e w1 ⟨rfl, hk1⟩
  rw [← HX.out, show errV (ferr 0) = .nilIface from rfl, ← HXS.out]
  have HB1 := Lib.hid (show BB w1 w.heap.size 23 b ∧ Keeps [] w w1 from ⟨(show BB (w.alloc (.cells (encB b).toArray 23)) w.heap.size 23 b from heap_alloc_new _ _).keeps hk1 (by simp), ((Keeps.refl [] w).alloc _).trans hk1 (by simp)⟩)
  clear hk1
  rw [← HBS.out]
  obtain ⟨g1, hg1⟩ : ∃ g, g = w1.heap.size := ⟨_, rfl⟩
  have HG1 := Lib.hid (show g1 = w1.heap.size ∧ w.heap.size < g1 from ⟨hg1, by rw [hg1]; exact lt_of_block HB1.out.1⟩)
  clear hg1
  go_wp2_with (first
    | (refine wpList_secArr rfl 23 (.tmp 1) none none none rfl Tryd.underlying23 infoB1f ⟨w.heap.size, 0, none⟩ 0 64 64 rfl .no .no .no (by decide) (by decide) (by decide) (by simp) ?_; rw [secA_zero])
    | (refine wpList_store_rowK rfl 25 (.tmp 3) (.tmp 9) rfl w1.heap.size xs (encB z32) 25 rfl rfl (by rw [HZ.out]; exact heap_alloc_new _ _) HCL.out HI.out HON.out ?_
       intro w2 h2 hk2
       have H2 := Lib.hid (show w2.heap[g1]? = some (.cells xs.toArray 25 (0, 0)) ∧ BB w2 w.heap.size 23 b ∧ Keeps [] w w2 from
         ⟨by rw [HG1.out.1]; exact h2.out, ((HB1.out.1.keeps ((Keeps.refl [] w1).alloc _) (by simp)).keeps hk2 (by simp; have := HG1.out; omega)), (HB1.out.2.alloc _).trans hk2 (fun t ht => .inr (by simp at ht; have := HG1.out; omega))⟩)
       clear h2 hk2
       rw [← HG1.out.1]))
  have HRD := Lib.hid (show RdB w2 (some ⟨w.heap.size, 0, none⟩) b from ⟨by simp, fun _ => ⟨_, rfl, fun j u hu => by rw [add_new, Nat.zero_add, cell_of_row _ _ _ _ _ _ H2.out.2.1, List.getElem?_toArray]; exact hu⟩⟩)
  have HSUM := Lib.hid (krefsum_any (some ⟨w.heap.size, 0, none⟩) b 64 w2 (by rw [HB.out]; decide) HRD.out)
  rw [HB.out, HXK.out] at HSUM
  refine HSUM.out.mono ?_
  rintro e w3 ⟨rfl, hk3⟩
  rw [← HXS.out]
  have H3 := Lib.hid (show w3.heap[g1]? = some (.cells xs.toArray 25 (0, 0)) ∧ Keeps [] w w3 from ⟨(hk3.block g1 (lt_of_block H2.out.1) (by simp)).trans H2.out.1, H2.out.2.2.trans hk3 (by simp)⟩)
  clear hk3 HSUM HRD
  obtain ⟨g2, hg2⟩ : ∃ g, g = w3.heap.size := ⟨_, rfl⟩
  have HG2 := Lib.hid (show g2 = w3.heap.size ∧ g1 < g2 from ⟨hg2, by rw [hg2]; exact lt_of_block H3.out.1⟩)
  clear hg2
  have F := fun z (hz : Two 25 g1 g2 xs xs z) => run_conv_str (P := Tryd.prog) z Tryd.underlying35 Tryd.underlying5 Tryd.underlying9 (A := some ⟨g2, 0, none⟩) (l := x) ⟨by simp, fun _ => ⟨_, rfl, fun j u hu => by rw [add_new, Nat.zero_add, cell_of_row _ _ _ _ _ _ hz.2, List.getElem?_toArray, HXS.out]; exact hu⟩⟩ 32
  rw [HXL.out] at F
  go_wp2_with (refine wpList_store_rowK rfl 25 (.tmp 5) (.tmp 12) rfl w3.heap.size xs (encB z32) 25 rfl rfl (by rw [HZ.out]; exact heap_alloc_new _ _) HCL.out HI.out HON.out ?_
               intro w4 h4 hk4
               have H4 := Lib.hid (show Two 25 g1 g2 xs xs w4 ∧ Keeps [] w w4 from by
                 have hg3 : g1 < w3.heap.size := lt_of_block H3.out.1
                 refine ⟨⟨?_, by rw [HG2.out.1]; exact h4.out⟩, (H3.out.2.alloc _).trans hk4 (fun t ht => .inr (by simp at ht; have := H3.out.2.size; omega))⟩
                 rw [hk4.block g1 (by simp; omega) (by simp; omega), heap_alloc_old _ _ (h := hg3)]
                 exact H3.out.1)
               clear h4 hk4
               rw [← HG2.out.1])
  refine seq_start (by kernel_rfl) (Two 25 g1 g2 xs xs) 25 [0, 1, 2, 3, 4, 5, 6, 7, 8, 9, 10, 11, 12, 13, 14, 15, 16, 17, 18, 19, 20, 21, 22, 23, 24] rfl (H4.out.1) (fun hS => ?_)
  have HV := Lib.hid (show Two 25 g1 g2 xs xs w4.drew ∧ Keeps [] w w4.drew from ⟨H4.out.1, H4.out.2.drew⟩)
  clear H4
  generalize w4.drew = V at HV hS ⊢
  refine seq_take (v := ?_) rfl (by kernel_rfl) (by kernel_rfl) (by kernel_rfl) (Or.inl ⟨by rfl, fun w' hSw => ?_⟩) (by assumption) ?_
  rotate_left
  · go_simp
    with_reducible rfl
  simp only [Act.put, List.setIfInBounds_toArray, List.set_cons_zero, List.set_cons_succ]
  refine seq_take (v := ?_) rfl (by kernel_rfl) (by kernel_rfl) (by kernel_rfl) (Or.inl ⟨by rfl, fun w' hSw => ?_⟩) (by assumption) ?_
  rotate_left
  · go_simp
    with_reducible rfl
  simp only [Act.put, List.setIfInBounds_toArray, List.set_cons_zero, List.set_cons_succ]
  refine seq_take (v := ?_) rfl (by kernel_rfl) (by kernel_rfl) (by kernel_rfl) (Or.inl ⟨by rfl, fun w' hSw => ?_⟩) (by assumption) ?_
  rotate_left
  · go_simp
    with_reducible rfl
  simp only [Act.put, List.setIfInBounds_toArray, List.set_cons_zero, List.set_cons_succ]
  refine seq_take (v := .agg xs.toArray) rfl (by kernel_rfl) (by kernel_rfl) (by kernel_rfl) ?_ (by assumption) ?_
  · exact yieldsIf_load_mid (by rfl) 25 (.tmp 3) (by rfl) g1 0 (by rfl) xs _ (fun z hz => rangeAt_rowF hz.1) Tryd.underlying25 rfl HI.out
  simp only [Act.put, List.setIfInBounds_toArray, List.set_cons_zero, List.set_cons_succ]
  refine seq_take (v := .agg xs.toArray) rfl (by kernel_rfl) (by kernel_rfl) (by kernel_rfl) ?_ (by assumption) ?_
  · exact yieldsIf_load_mid (by rfl) 25 (.tmp 5) (by rfl) g2 0 (by rfl) xs _ (fun z hz => rangeAt_rowF hz.2) Tryd.underlying25 rfl HI.out
  simp only [Act.put, List.setIfInBounds_toArray, List.set_cons_zero, List.set_cons_succ]
  refine seq_take (v := .bool true) rfl (by kernel_rfl) (by kernel_rfl) (by kernel_rfl) ?_ (by assumption) ?_
  · exact yieldsIf_eqv (by rfl) 25 (.tmp 16) (.tmp 17) (by rfl) (.agg xs.toArray) (.agg xs.toArray) _ (by rfl) (by rfl) fe fg
  simp only [Act.put, List.setIfInBounds_toArray, List.set_cons_zero, List.set_cons_succ]
  refine seq_take (v := ?_) rfl (by kernel_rfl) (by kernel_rfl) (by kernel_rfl) (Or.inl ⟨by rfl, fun w' hSw => ?_⟩) (by assumption) ?_
  rotate_left
  · go_simp
    with_reducible rfl
  simp only [Act.put, List.setIfInBounds_toArray, List.set_cons_zero, List.set_cons_succ]
  refine seq_take (v := ?_) rfl (by kernel_rfl) (by kernel_rfl) (by kernel_rfl) (Or.inl ⟨by rfl, fun w' hSw => ?_⟩) (by assumption) ?_
  rotate_left
  · go_simp
    with_reducible rfl
  simp only [Act.put, List.setIfInBounds_toArray, List.set_cons_zero, List.set_cons_succ]
  refine seq_take (v := .agg xs.toArray) rfl (by kernel_rfl) (by kernel_rfl) (by kernel_rfl) ?_ (by assumption) ?_
  · exact yieldsIf_load_mid (by rfl) 25 (.tmp 3) (by rfl) g1 0 (by rfl) xs _ (fun z hz => rangeAt_rowF hz.1) Tryd.underlying25 rfl HI.out
  simp only [Act.put, List.setIfInBounds_toArray, List.set_cons_zero, List.set_cons_succ]
  iterate 1 (refine seq_later ?_; simp only [List.cons_append, List.nil_append])
  refine seq_take (v := .agg xs.toArray) rfl (by kernel_rfl) (by kernel_rfl) (by kernel_rfl) ?_ (by assumption) ?_
  · exact yieldsIf_load_mid (by rfl) 25 (.tmp 5) (by rfl) g2 0 (by rfl) xs _ (fun z hz => rangeAt_rowF hz.2) Tryd.underlying25 rfl HI.out
  simp only [Act.put, List.setIfInBounds_toArray, List.set_cons_zero, List.set_cons_succ]
  iterate 14 (refine seq_later ?_; simp only [List.cons_append, List.nil_append])
  refine seq_do rfl (by kernel_rfl) (by rfl) (fun K hK => ?_)
  go_simp
  rw [HXS.out]
  refine (ftext_any x V HXL.out).mono ?_
  rintro e w5 ⟨rfl, hk5⟩
  rw [← HXS.out]
  have H5 := Lib.hid (show Two 25 g1 g2 xs xs w5 ∧ Keeps [] w w5 from ⟨HV.out.1.keeps hk5 (by simp) (by simp), HV.out.2.trans hk5 (by simp)⟩)
  clear hk5 HV
  obtain ⟨tx, htx⟩ : ∃ tx, tx = hexAll x := ⟨_, rfl⟩
  rw [← htx]
  have HTX := Lib.hid htx
  clear htx
  refine hK.out (Two 25 g1 g2 xs xs) _ _ (fun _ h => h) H5.out.1 (fun hS => ?_)
  refine seq_do rfl (by kernel_rfl) (by rfl) (fun K hK => ?_)
  go_simp
  rw [HXS.out]
  refine (reftext_any x w5 HXL.out).mono ?_
  rintro e w6 ⟨rfl, hk6⟩
  rw [← HXS.out, ← HTX.out]
  have H6 := Lib.hid (show Two 25 g1 g2 xs xs w6 ∧ Keeps [] w w6 from ⟨H5.out.1.keeps hk6 (by simp) (by simp), H5.out.2.trans hk6 (by simp)⟩)
  clear hk6 H5
  refine hK.out (Two 25 g1 g2 xs xs) _ _ (fun _ h => h) H6.out.1 (fun hS => ?_)
  refine seq_take (v := ?_) rfl (by kernel_rfl) (by kernel_rfl) (by kernel_rfl) (Or.inl ⟨by rfl, fun w' hSw => ?_⟩) (by assumption) ?_
  rotate_left
  · go_simp
    with_reducible rfl
  simp only [Act.put, List.setIfInBounds_toArray, List.set_cons_zero, List.set_cons_succ]
  refine seq_take (v := ?_) rfl (by kernel_rfl) (by kernel_rfl) (by kernel_rfl) (Or.inl ⟨by rfl, fun w' hSw => ?_⟩) (by assumption) ?_
  rotate_left
  · go_simp
    with_reducible rfl
  simp only [Act.put, List.setIfInBounds_toArray, List.set_cons_zero, List.set_cons_succ]
  refine seq_take (v := ?_) rfl (by kernel_rfl) (by kernel_rfl) (by kernel_rfl) (Or.inl ⟨by rfl, fun w' hSw => ?_⟩) (by assumption) ?_
  rotate_left
  · go_simp
    with_reducible rfl
  simp only [Act.put, List.setIfInBounds_toArray, List.set_cons_zero, List.set_cons_succ]
  refine seq_take (v := .agg xs.toArray) rfl (by kernel_rfl) (by kernel_rfl) (by kernel_rfl) ?_ (by assumption) ?_
  · exact yieldsIf_load_mid (by rfl) 25 (.tmp 3) (by rfl) g1 0 (by rfl) xs _ (fun z hz => rangeAt_rowF hz.1) Tryd.underlying25 rfl HI.out
  simp only [Act.put, List.setIfInBounds_toArray, List.set_cons_zero, List.set_cons_succ]
  iterate 1 (refine seq_later ?_; simp only [List.cons_append, List.nil_append])
  refine seq_take (v := .slice (some ⟨g2, 0, none⟩) 32 32) rfl (by kernel_rfl) (by kernel_rfl) (by kernel_rfl) ?_ (by assumption) ?_
  · exact yieldsIf_allArr (by rfl) 25 (.tmp 5) (by rfl) Tryd.underlying25 infoB1f ⟨g2, 0, none⟩ (by rfl)
  simp only [Act.put, List.setIfInBounds_toArray, List.set_cons_zero, List.set_cons_succ]
  refine seq_take (v := ?_) rfl (by kernel_rfl) (by kernel_rfl) (by kernel_rfl) (Or.inl ⟨by rfl, fun w' hSw => ?_⟩) (by assumption) ?_
  rotate_left
  · go_simp
    with_reducible rfl
  simp only [Act.put, List.setIfInBounds_toArray, List.set_cons_zero, List.set_cons_succ]
  iterate 6 (refine seq_later ?_; simp only [List.cons_append, List.nil_append])
  refine seq_do rfl (by kernel_rfl) (by rfl) (fun K hK => ?_)
  go_simp
  rw [HXS.out]
  refine (key_any x w6 HXL.out).mono ?_
  rintro e w7 ⟨rfl, hk7⟩
  rw [← HXS.out]
  have H7 := Lib.hid (show Two 25 g1 g2 xs xs w7 ∧ Keeps [] w w7 from ⟨H6.out.1.keeps hk7 (by simp) (by simp), H6.out.2.trans hk7 (by simp)⟩)
  clear hk7 H6
  refine hK.out (Two 25 g1 g2 xs xs) _ _ (fun _ h => h) H7.out.1 (fun hS => ?_)
  refine seq_take (v := ?_) rfl (by kernel_rfl) (by kernel_rfl) (by kernel_rfl) (Or.inl ⟨by rfl, fun w' hSw => ?_⟩) (by assumption) ?_
  rotate_left
  · go_simp
    with_reducible rfl
  simp only [Act.put, List.setIfInBounds_toArray, List.set_cons_zero, List.set_cons_succ]
  refine seq_take (v := ?_) rfl (by kernel_rfl) (by kernel_rfl) (by kernel_rfl) (Or.inl ⟨by rfl, fun w' hSw => ?_⟩) (by assumption) ?_
  rotate_left
  · go_simp
    with_reducible rfl
  simp only [Act.put, List.setIfInBounds_toArray, List.set_cons_zero, List.set_cons_succ]
  refine seq_take (v := ?_) rfl (by kernel_rfl) (by kernel_rfl) (by kernel_rfl) (Or.inl ⟨by rfl, fun w' hSw => ?_⟩) (by assumption) ?_
  rotate_left
  · go_simp
    with_reducible rfl
  simp only [Act.put, List.setIfInBounds_toArray, List.set_cons_zero, List.set_cons_succ]
  refine seq_do rfl (by kernel_rfl) (by rfl) (fun K hK => ?_)
  go_simp
  refine (fsure_any w7 (HC.out.1.keeps H7.out.2 (by simp)) (HC.out.2.keeps H7.out.2 (by simp))).mono ?_
  rintro e w8 ⟨rfl, hk8⟩
  have H8 := Lib.hid (show Two 25 g1 g2 xs xs w8 ∧ Keeps [] w w8 from ⟨H7.out.1.keeps hk8 (by simp) (by simp), H7.out.2.trans hk8 (by simp)⟩)
  refine hK.out (Two 25 g1 g2 xs xs) _ _ (fun _ h => h) H8.out.1 (fun hS => ?_)
  refine seq_take (v := ?_) rfl (by kernel_rfl) (by kernel_rfl) (by kernel_rfl) (Or.inl ⟨by rfl, fun w' hSw => ?_⟩) (by assumption) ?_
  rotate_left
  · go_simp
    with_reducible rfl
  simp only [Act.put, List.setIfInBounds_toArray, List.set_cons_zero, List.set_cons_succ]
  refine seq_take (v := ?_) rfl (by kernel_rfl) (by kernel_rfl) (by kernel_rfl) (Or.inl ⟨by rfl, fun w' hSw => ?_⟩) (by assumption) ?_
  rotate_left
  · go_simp
    with_reducible rfl
  simp only [Act.put, List.setIfInBounds_toArray, List.set_cons_zero, List.set_cons_succ]
  refine seq_done (by kernel_rfl) ?_
  all_goals skip
  go_wp2_with fail
  go_ret
  exact ⟨rfl, H8.out.2⟩
theorem strong_row (xs : List Int) (w : World) (hh : Con w ∧ HT w) (ok1 : (K.arr 64 (K.int .u8)).ok w xs) :
    Calls Tryd.prog 5 #[.agg ((K.arr 64 (K.int .u8)).cells xs).toArray] w fun e w' => e = .returned (.bool true) ∧ Below w.heap.size w w' := by
  obtain ⟨e1, e2⟩ := arrB_of_k ok1
  rw [e1]
  exact (strong_any (toB xs) w hh.1 hh.2 e2).mono fun _ _ h => ⟨h.1, h.2.below (Nat.le_refl _) (by simp)⟩
end Go.Proofs.YtomleanoofoejaaDoor
