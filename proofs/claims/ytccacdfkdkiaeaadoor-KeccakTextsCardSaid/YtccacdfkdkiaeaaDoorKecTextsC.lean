/- The law on texts: called with any sum it answers true. -/
import Derived.Test.YtccacdfkdkiaeaaDoorKecSureC
import Derived.Test.YtccacdfkdkiaeaaDoorKecRefText
import Derived.Test.YtccacdfkdkiaeaaDoorMem
import Derived.Test.YtccacdfkdkiaeaaDoorKinds
namespace Go.Proofs.YtccacdfkdkiaeaaDoor
open Go.RowKit
attribute [local irreducible] turnK outK absAll hexAll

theorem rangeAt_rowK {w : World} {g : Nat} {cs : List Value} {t : TypeId} {fr : Nat × Nat} (h : w.heap[g]? = some (.cells cs.toArray t fr)) : w.rangeAt g 0 cs := fun j v hj => by
  rw [Nat.zero_add, cell_of_row _ _ _ _ _ _ h, List.getElem?_toArray]; exact hj
theorem info_tx : (Tryd.prog.info? 25).map (·.size) = some 32 := by kernel_rfl
set_option maxHeartbeats 1000000 in
theorem texts_any (l : List UInt8) (w : World) (hc : Con w) (hl : l.length = 32) :
    Calls Tryd.prog 5 #[.agg (encB l).toArray] w fun e w' => e = .returned (.bool true) ∧ Below w.heap.size w w' := by
  have HI := Lib.hid (show (Tryd.prog.info? 25).map (·.size) = some (encB l).length by rw [length_encB, hl]; exact info_tx)
  have HL := Lib.hid hl
  have HC := Lib.hid hc
  obtain ⟨cs, hcs⟩ : ∃ cs, cs = encB l := ⟨_, rfl⟩
  rw [← hcs] at HI ⊢
  have HCS := Lib.hid hcs
  clear hl hc hcs
  go_enter Tryd.func5, Tryd.ntmps5
  go_wp2_with fail
  obtain ⟨W, hW⟩ : ∃ W, W = w.alloc (.cells cs.toArray 25) := ⟨_, rfl⟩
  rw [← hW]
  have HB := Lib.hid (show W.heap[w.heap.size]? = some (.cells cs.toArray 25 (0, 0)) by rw [hW]; exact heap_alloc_new _ _)
  have HK := Lib.hid (show Keeps [] w W by rw [hW]; exact (Keeps.refl [] w).alloc _)
  clear hW
  refine seq_start (by kernel_rfl) (fun z => z.heap[w.heap.size]? = some (.cells cs.toArray 25 (0, 0))) 9 [0, 1, 2, 3, 4, 5, 6, 7, 8] rfl (HB.out) (fun hS => ?_)
  have HW := Lib.hid (show W.drew.heap[w.heap.size]? = some (.cells cs.toArray 25 (0, 0)) ∧ Keeps [] w W.drew from ⟨HB.out, HK.out.drew⟩)
  clear HB HK
  generalize W.drew = V at HW hS ⊢
  refine seq_take (v := .agg cs.toArray) rfl (by kernel_rfl) (by kernel_rfl) (by kernel_rfl) ?_ (by assumption) ?_
  · exact yieldsIf_load_mid (by rfl) 25 (.tmp 1) (by rfl) w.heap.size 0 (by rfl) cs _ (fun z hz => rangeAt_rowK hz) Tryd.underlying25 rfl HI.out
  simp only [Act.put, List.setIfInBounds_toArray, List.set_cons_zero, List.set_cons_succ]
  iterate 1 (refine seq_later ?_; simp only [List.cons_append, List.nil_append])
  refine seq_take (v := .agg cs.toArray) rfl (by kernel_rfl) (by kernel_rfl) (by kernel_rfl) ?_ (by assumption) ?_
  · exact yieldsIf_load_mid (by rfl) 25 (.tmp 1) (by rfl) w.heap.size 0 (by rfl) cs _ (fun z hz => rangeAt_rowK hz) Tryd.underlying25 rfl HI.out
  simp only [Act.put, List.setIfInBounds_toArray, List.set_cons_zero, List.set_cons_succ]
  iterate 6 (refine seq_later ?_; simp only [List.cons_append, List.nil_append])
  refine seq_do rfl (by kernel_rfl) (by rfl) (fun K hK => ?_)
  go_simp
  rw [HCS.out]
  refine (text_any l V HL.out).mono ?_
  rintro e w1 ⟨rfl, hk1⟩
  rw [← HCS.out]
  have H1 := Lib.hid (show w1.heap[w.heap.size]? = some (.cells cs.toArray 25 (0, 0)) ∧ Keeps [] w w1 from ⟨(hk1.block _ (lt_of_block HW.out.1) (by simp)).trans HW.out.1, HW.out.2.trans hk1 (by simp)⟩)
  clear hk1 HW
  refine hK.out (fun z => z.heap[w.heap.size]? = some (.cells cs.toArray 25 (0, 0))) _ _ (fun _ h => h) H1.out.1 (fun hS => ?_)
  refine seq_do rfl (by kernel_rfl) (by rfl) (fun K hK => ?_)
  go_simp
  rw [HCS.out]
  refine (reftext_any l w1 HL.out).mono ?_
  rintro e w2 ⟨rfl, hk2⟩
  rw [← HCS.out]
  have H2 := Lib.hid (show w2.heap[w.heap.size]? = some (.cells cs.toArray 25 (0, 0)) ∧ Keeps [] w w2 from ⟨(hk2.block _ (lt_of_block H1.out.1) (by simp)).trans H1.out.1, H1.out.2.trans hk2 (by simp)⟩)
  clear hk2 H1
  obtain ⟨x, hx⟩ : ∃ x, x = hexAll l := ⟨_, rfl⟩
  rw [← hx]
  clear hx
  refine hK.out (fun z => z.heap[w.heap.size]? = some (.cells cs.toArray 25 (0, 0))) _ _ (fun _ h => h) H2.out.1 (fun hS => ?_)
  refine seq_take (v := ?_) rfl (by kernel_rfl) (by kernel_rfl) (by kernel_rfl) (Or.inl ⟨by rfl, fun w' hSw => ?_⟩) (by assumption) ?_
  rotate_left
  · go_simp
    with_reducible rfl
  simp only [Act.put, List.setIfInBounds_toArray, List.set_cons_zero, List.set_cons_succ]
  refine seq_take (v := ?_) rfl (by kernel_rfl) (by kernel_rfl) (by kernel_rfl) (Or.inl ⟨by rfl, fun w' hSw => ?_⟩) (by assumption) ?_
  rotate_left
  · go_simp
    with_reducible rfl
  simp only [Act.put, List.setIfInBounds_toArray, List.set_cons_zero, List.set_cons_succ]
  refine seq_do rfl (by kernel_rfl) (by rfl) (fun K hK => ?_)
  go_simp
  refine (sure_any w2 (HC.out.keeps H2.out.2 (by simp))).mono ?_
  rintro e w3 ⟨rfl, hk3⟩
  have H3 := Lib.hid (show Keeps [] w w3 from H2.out.2.trans hk3 (by simp))
  refine hK.out (fun z => z.heap[w.heap.size]? = some (.cells cs.toArray 25 (0, 0))) _ _ (fun _ h => h) ((hk3.block _ (lt_of_block H2.out.1) (by simp)).trans H2.out.1) (fun hS => ?_)
  refine seq_take (v := ?_) rfl (by kernel_rfl) (by kernel_rfl) (by kernel_rfl) (Or.inl ⟨by rfl, fun w' hSw => ?_⟩) (by assumption) ?_
  rotate_left
  · go_simp
    with_reducible rfl
  simp only [Act.put, List.setIfInBounds_toArray, List.set_cons_zero, List.set_cons_succ]
  refine seq_take (v := ?_) rfl (by kernel_rfl) (by kernel_rfl) (by kernel_rfl) (Or.inl ⟨by rfl, fun w' hSw => ?_⟩) (by assumption) ?_
  rotate_left
  · go_simp
    with_reducible rfl
  simp only [Act.put, List.setIfInBounds_toArray, List.set_cons_zero, List.set_cons_succ]
  refine seq_done (by kernel_rfl) ?_
  all_goals skip
  go_wp2_with fail
  go_ret
  exact ⟨rfl, H3.out.below (Nat.le_refl _) (by simp)⟩
theorem texts_row (xs : List Int) (w : World) (hc : Con w) (ok : (K.arr 32 (K.int .u8)).ok w xs) :
    Calls Tryd.prog 5 #[.agg ((K.arr 32 (K.int .u8)).cells xs).toArray] w fun e w' => e = .returned (.bool true) ∧ Below w.heap.size w w' := by
  obtain ⟨e1, e2⟩ := arrB_of_k ok
  rw [e1]
  exact texts_any (toB xs) w hc e2
end Go.Proofs.YtccacdfkdkiaeaaDoor
