/- The law on the bits that a key asks for: called with any size and any key it answers true. -/
import Derived.Test.YthppbefemfkccaaDoorBloomRefB
import Derived.Test.YthppbefemfkccaaDoorBloomEnc
import Derived.Test.YthppbefemfkccaaDoorNum
import Derived.Test.YthppbefemfkccaaDoorRw
import Derived.Test.YthppbefemfkccaaDoorKinds
import Derived.Test.YthppbefemfkccaaDoorBulk
namespace Go.Proofs.YthppbefemfkccaaDoor
open Go.RowKit

theorem hasBit_zero (m j : Nat) : hasBit (List.replicate m 0) j = false := by
  unfold hasBit
  rw [List.getD_eq_getElem?_getD, List.getElem?_replicate]
  split <;> simp
theorem may_zero (m n k : Nat) (s : List UInt8) (hk : 1 ≤ k) : mayK (List.replicate m 0) (bitsK n k s) = false := by
  unfold mayK
  rw [List.all_eq_false]
  have h0 : 0 < (bitsK n k s).length := by simp; omega
  exact ⟨(bitsK n k s)[0], List.getElem_mem h0, by rw [hasBit_zero]; simp⟩
theorem full_zero (m : Nat) : fullK (List.replicate m 0) = 0 := by
  unfold fullK
  induction m with
  | zero => rfl
  | succ m ih => rw [List.replicate_succ, List.map_cons, List.sum_cons, ih]; rfl
theorem rangeAt_rowB {w : World} {g : Nat} {cs : List Value} {t : TypeId} {fr : Nat × Nat} (h : w.heap[g]? = some (.cells cs.toArray t fr)) : w.rangeAt g 0 cs := fun j v hj => by
  rw [Nat.zero_add, cell_of_row _ _ _ _ _ _ h, List.getElem?_toArray]; exact hj
attribute [local irreducible] bitsK orAll encK

set_option maxRecDepth 100000 in
set_option maxHeartbeats 8000000 in
theorem lawbits_any (x y : Int) (s : List UInt8) (w : World) (ht : HT w) (hs : s.length ≤ 140737488351232) :
    Calls Tryd.prog 3 #[.agg #[.int .i64 x, .int .i64 y], .string (strB s)] w fun e w' => e = .returned (.bool true) ∧ Keeps [] w w' := by
  have HTT := Lib.hid ht
  have HS := Lib.hid hs
  have hsz := strB_size s
  clear ht hs
  by_cases hfit : FitB x y
  · obtain ⟨N, rfl⟩ : ∃ N : Nat, x = (N : Int) := ⟨x.toNat, by unfold FitB at hfit; omega⟩
    obtain ⟨M, rfl⟩ : ∃ M : Nat, y = (M : Int) := ⟨y.toNat, by unfold FitB at hfit; omega⟩
    have HNM := Lib.hid (show (1 ≤ N ∧ N ≤ 1048576) ∧ (1 ≤ M ∧ M ≤ 16) from by unfold FitB at hfit; omega)
    clear hfit
    obtain ⟨L, hL⟩ : ∃ L, L = s.length := ⟨_, rfl⟩
    rw [← hL] at hsz
    have HLL := Lib.hid hL
    clear hL
    go_enter Tryd.func3, Tryd.ntmps3
    go_wp2_with fail
    refine (bnew_any N M _ HNM.out.1 HNM.out.2).mono ?_
    rintro e w1 ⟨g, A1, rfl, hf1, hg1, hA1, hk1⟩
    obtain ⟨z, hz⟩ : ∃ z : List UInt8, z = List.replicate ((N + 7) / 8) 0 := ⟨_, rfl⟩
    rw [← hz] at hf1
    have HZZ := Lib.hid (show z.length = (N + 7) / 8 ∧ mayK z (bitsK N M s) = false ∧ fullK z = 0 from ⟨by rw [hz]; simp, by rw [hz]; exact may_zero _ _ _ _ HNM.out.2.1, by rw [hz]; exact full_zero _⟩)
    have c0 : w1.cell? ⟨w.heap.size, 0, none⟩ = some (.int .i64 (N : Int)) := hk1.cell (by simp) (by simp)
    have c1 : w1.cell? ⟨w.heap.size, 1, none⟩ = some (.int .i64 (M : Int)) := hk1.cell (by simp) (by simp)
    have H1 := Lib.hid (show Fm w1 g N M A1 ((N + 7) / 8) z ∧ Keeps [] w w1 from ⟨hf1, ((Keeps.refl [] w).alloc _).trans hk1 (by simp)⟩)
    clear hf1 hg1 hA1 hk1 hz
    go_wp2_with fail
    refine (rnew_any N M _ HNM.out.1 HNM.out.2).mono ?_
    rintro e w2 ⟨gb, rfl, hgb, hrow, hk2⟩
    have H2 := Lib.hid (show Fm w2 g N M A1 ((N + 7) / 8) z ∧ Keeps [] w w2 from ⟨H1.out.1.keeps0 hk2, H1.out.2.trans hk2 (by simp)⟩)
    clear hgb hrow hk2 H1 c0 c1
    obtain ⟨gr, hgr⟩ : ∃ gr, gr = w2.heap.size := ⟨_, rfl⟩
    have HG := Lib.hid hgr
    clear hgr
    go_wp2_with fail
    obtain ⟨cs, hcs⟩ : ∃ cs : List Value, cs = [.int .i64 (M : Int), .slice (some ⟨gb, 0, none⟩) N N] := ⟨_, rfl⟩
    have HCS := Lib.hid hcs
    have HCI := Lib.hid (show (Tryd.prog.info? 31).map (·.size) = some cs.length by rw [hcs]; exact info_rf)
    have H3 := Lib.hid (show (w2.alloc (.cells #[.int .i64 (M : Int), .slice (some ⟨gb, 0, none⟩) N N] 31)).heap[gr]? = some (.cells cs.toArray 31 (0, 0)) ∧ Fm (w2.alloc (.cells #[.int .i64 (M : Int), .slice (some ⟨gb, 0, none⟩) N N] 31)) g N M A1 ((N + 7) / 8) z ∧ Keeps [] w (w2.alloc (.cells #[.int .i64 (M : Int), .slice (some ⟨gb, 0, none⟩) N N] 31)) from
      ⟨by rw [HG.out, hcs]; exact heap_alloc_new _ _, H2.out.1.keeps0 ((Keeps.refl [] w2).alloc _), H2.out.2.alloc _⟩)
    clear hcs H2
    refine (num_nil _).mono ?_
    rintro e w4 ⟨rfl, hk4⟩
    have H4 := Lib.hid (show w4.heap[gr]? = some (.cells cs.toArray 31 (0, 0)) ∧ Fm w4 g N M A1 ((N + 7) / 8) z ∧ Keeps [] w w4 from ⟨(hk4.block gr (lt_of_block H3.out.1) (by simp)).trans H3.out.1, H3.out.2.1.keeps0 hk4, H3.out.2.2.trans hk4 (by simp)⟩)
    clear hk4 H3
    rw [← HG.out]
    by_cases hlen : 1000 < L
    · have h1000 : (1000 : Int) < (L : Int) := by omega
      clear hlen
      go_wp2_with fail
      refine (num_nil _).mono ?_
      rintro e w5 ⟨rfl, hk5⟩
      have H5 := Lib.hid (H4.out.2.2.trans hk5 (by simp))
      clear hk5 H4
      go_wp2_with fail
      refine (bsure_any _).mono ?_
      rintro e w6 ⟨rfl, hk6⟩
      have H6 := Lib.hid (H5.out.trans hk6 (by simp))
      clear hk6
      go_wp2_with fail
      go_ret
      exact ⟨rfl, H6.out⟩
    · have h1000 : ¬ (1000 : Int) < (L : Int) := by omega
      clear hlen
      go_wp2_with fail
      refine seq_start (by kernel_rfl) (fun z' => z'.heap[gr]? = some (.cells (cs : List Value).toArray 31 (0, 0))) 22 [0, 1, 2, 3, 4, 5, 6, 7, 8, 9, 10, 11, 12, 13, 14, 15, 16, 17, 18, 19, 20, 21] rfl (H4.out.1) (fun hS => ?_)
      have HV := Lib.hid (show w4.drew.heap[gr]? = some (.cells cs.toArray 31 (0, 0)) ∧ Fm w4.drew g N M A1 ((N + 7) / 8) z ∧ Keeps [] w w4.drew from ⟨H4.out.1, H4.out.2.1, H4.out.2.2.drew⟩)
      clear H4
      generalize w4.drew = V at HV hS ⊢
      refine seq_take (v := ?_) rfl (by kernel_rfl) (by kernel_rfl) (by kernel_rfl) (Or.inl ⟨by rfl, fun w' hSw => ?_⟩) (by assumption) ?_
      rotate_left
      · go_simp
        with_reducible rfl
      simp only [Act.put, List.setIfInBounds_toArray, List.set_cons_zero, List.set_cons_succ]
      refine seq_take (v := ?_) rfl (by kernel_rfl) (by kernel_rfl) (by kernel_rfl) (Or.inl ⟨by rfl, fun w' hSw => ?_⟩) (by assumption) ?_
      rotate_left
      · go_simp
        with_reducible rfl
      simp only [Act.put, List.setIfInBounds_toArray, List.set_cons_zero, List.set_cons_succ]
      iterate 1 (refine seq_later ?_; simp only [List.cons_append, List.nil_append])
      refine seq_take (v := .agg cs.toArray) rfl (by kernel_rfl) (by kernel_rfl) (by kernel_rfl) ?_ (by assumption) ?_
      · exact yieldsIf_load_mid (by rfl) 31 (.tmp 7) (by rfl) gr 0 (by rfl) cs _ (fun z hz => rangeAt_rowB hz) Tryd.underlying31 rfl HCI.out
      simp only [Act.put, List.setIfInBounds_toArray, List.set_cons_zero, List.set_cons_succ]
      refine seq_take (v := ?_) rfl (by kernel_rfl) (by kernel_rfl) (by kernel_rfl) (Or.inl ⟨by rfl, fun w' hSw => ?_⟩) (by assumption) ?_
      rotate_left
      · go_simp
        with_reducible rfl
      simp only [Act.put, List.setIfInBounds_toArray, List.set_cons_zero, List.set_cons_succ]
      iterate 17 (refine seq_later ?_; simp only [List.cons_append, List.nil_append])
      refine seq_do rfl (by kernel_rfl) (by rfl) (fun K hK => ?_)
      go_simp
      refine (bits_any g N M A1 _ z s V HV.out.2.1 HNM.out.1 HNM.out.2 HS.out).mono ?_
      rintro e w5 ⟨gl, rfl, hib, hgl, hk5⟩
      have H5 := Lib.hid (show w5.heap[gr]? = some (.cells cs.toArray 31 (0, 0)) ∧ Fm w5 g N M A1 ((N + 7) / 8) z ∧ Keeps [] w w5 ∧ Rd w5 (some ⟨gl, 0, none⟩) M 1 (encI (bitsK N M s)) from
        ⟨(hk5.block gr (lt_of_block HV.out.1) (by simp)).trans HV.out.1, HV.out.2.1.keeps0 hk5, HV.out.2.2.trans hk5 (by simp), by simp, fun _ => ⟨_, rfl, fun j u hu => by rw [add_new, Nat.zero_add, cell_of_row _ _ _ _ _ _ hib, List.getElem?_toArray]; exact hu⟩⟩)
      clear hib hgl hk5 HV
      refine hK.out (fun z' => z'.heap[gr]? = some (.cells (cs : List Value).toArray 31 (0, 0))) _ _ (fun _ h => h) H5.out.1 (fun hS => ?_)
      refine seq_do rfl (by kernel_rfl) (by rfl) (fun K hK => ?_)
      go_simp
      rw [HCS.out]
      refine (rbits_any gb N M s w5 HNM.out.1 HNM.out.2 HS.out).mono ?_
      rintro e w6 ⟨A6, c6, rfl, hrd6, hk6⟩
      rw [← HCS.out]
      have H6 := Lib.hid (show w6.heap[gr]? = some (.cells cs.toArray 31 (0, 0)) ∧ Fm w6 g N M A1 ((N + 7) / 8) z ∧ Keeps [] w w6 ∧ Rd w6 (some ⟨gl, 0, none⟩) M 1 (encI (bitsK N M s)) ∧ Rd w6 A6 M 1 (encI (bitsK N M s)) from
        ⟨(hk6.block gr (lt_of_block H5.out.1) (by simp)).trans H5.out.1, H5.out.2.1.keeps0 hk6, H5.out.2.2.1.trans hk6 (by simp), H5.out.2.2.2.keeps0 hk6, hrd6⟩)
      clear hrd6 hk6 H5
      refine hK.out (fun z' => z'.heap[gr]? = some (.cells (cs : List Value).toArray 31 (0, 0))) _ _ (fun _ h => h) H6.out.1 (fun hS => ?_)
      refine seq_do rfl (by kernel_rfl) (by rfl) (fun K hK => ?_)
      go_simp
      refine (ints_same (bitsK N M s) M (bitsK_len _ _ _) (by have := HNM.out.2; omega) _ _ _ _ w6 H6.out.2.2.2.1 H6.out.2.2.2.2).mono ?_
      rintro e w7 ⟨rfl, hk7⟩
      have H7 := Lib.hid (show w7.heap[gr]? = some (.cells cs.toArray 31 (0, 0)) ∧ Fm w7 g N M A1 ((N + 7) / 8) z ∧ Keeps [] w w7 from ⟨(hk7.block gr (lt_of_block H6.out.1) (by simp)).trans H6.out.1, H6.out.2.1.keeps0 hk7, H6.out.2.2.1.trans hk7 (by simp)⟩)
      clear hk7 H6
      refine hK.out (fun z' => z'.heap[gr]? = some (.cells (cs : List Value).toArray 31 (0, 0))) _ _ (fun _ h => h) H7.out.1 (fun hS => ?_)
      refine seq_take (v := ?_) rfl (by kernel_rfl) (by kernel_rfl) (by kernel_rfl) (Or.inl ⟨by rfl, fun w' hSw => ?_⟩) (by assumption) ?_
      rotate_left
      · go_simp
        with_reducible rfl
      simp only [Act.put, List.setIfInBounds_toArray, List.set_cons_zero, List.set_cons_succ]
      refine seq_take (v := ?_) rfl (by kernel_rfl) (by kernel_rfl) (by kernel_rfl) (Or.inl ⟨by rfl, fun w' hSw => ?_⟩) (by assumption) ?_
      rotate_left
      · go_simp
        with_reducible rfl
      simp only [Act.put, List.setIfInBounds_toArray, List.set_cons_zero, List.set_cons_succ]
      refine seq_take (v := ?_) rfl (by kernel_rfl) (by kernel_rfl) (by kernel_rfl) (Or.inl ⟨by rfl, fun w' hSw => ?_⟩) (by assumption) ?_
      rotate_left
      · go_simp
        with_reducible rfl
      simp only [Act.put, List.setIfInBounds_toArray, List.set_cons_zero, List.set_cons_succ]
      refine seq_do rfl (by kernel_rfl) (by rfl) (fun K hK => ?_)
      go_simp
      refine (may_any g N M A1 _ z s w7 H7.out.2.1 HNM.out.1 HNM.out.2 HS.out (by rw [HZZ.out.1]; omega)).mono ?_
      rintro e w8 ⟨rfl, hk8⟩
      rw [HZZ.out.2.1]
      have H8 := Lib.hid (show w8.heap[gr]? = some (.cells cs.toArray 31 (0, 0)) ∧ Fm w8 g N M A1 ((N + 7) / 8) z ∧ Keeps [] w w8 from ⟨(hk8.block gr (lt_of_block H7.out.1) (by simp)).trans H7.out.1, H7.out.2.1.keeps0 hk8, H7.out.2.2.trans hk8 (by simp)⟩)
      clear hk8 H7
      refine hK.out (fun z' => z'.heap[gr]? = some (.cells (cs : List Value).toArray 31 (0, 0))) _ _ (fun _ h => h) H8.out.1 (fun hS => ?_)
      refine seq_take (v := ?_) rfl (by kernel_rfl) (by kernel_rfl) (by kernel_rfl) (Or.inl ⟨by rfl, fun w' hSw => ?_⟩) (by assumption) ?_
      rotate_left
      · go_simp
        with_reducible rfl
      simp only [Act.put, List.setIfInBounds_toArray, List.set_cons_zero, List.set_cons_succ]
      refine seq_take (v := ?_) rfl (by kernel_rfl) (by kernel_rfl) (by kernel_rfl) (Or.inl ⟨by rfl, fun w' hSw => ?_⟩) (by assumption) ?_
      rotate_left
      · go_simp
        with_reducible rfl
      simp only [Act.put, List.setIfInBounds_toArray, List.set_cons_zero, List.set_cons_succ]
      refine seq_take (v := ?_) rfl (by kernel_rfl) (by kernel_rfl) (by kernel_rfl) (Or.inl ⟨by rfl, fun w' hSw => ?_⟩) (by assumption) ?_
      rotate_left
      · go_simp
        with_reducible rfl
      simp only [Act.put, List.setIfInBounds_toArray, List.set_cons_zero, List.set_cons_succ]
      refine seq_take (v := ?_) rfl (by kernel_rfl) (by kernel_rfl) (by kernel_rfl) (Or.inl ⟨by rfl, fun w' hSw => ?_⟩) (by assumption) ?_
      rotate_left
      · go_simp
        with_reducible rfl
      simp only [Act.put, List.setIfInBounds_toArray, List.set_cons_zero, List.set_cons_succ]
      refine seq_do rfl (by kernel_rfl) (by rfl) (fun K hK => ?_)
      go_simp
      refine (full_any g N M A1 _ z w8 H8.out.2.1 (by rw [HZZ.out.1]; have := HNM.out.1; omega)).mono ?_
      rintro e w9 ⟨rfl, rfl⟩
      rw [HZZ.out.2.2]
      refine hK.out (fun z' => z'.heap[gr]? = some (.cells (cs : List Value).toArray 31 (0, 0))) _ _ (fun _ h => h) H8.out.1 (fun hS => ?_)
      refine seq_take (v := ?_) rfl (by kernel_rfl) (by kernel_rfl) (by kernel_rfl) (Or.inl ⟨by rfl, fun w' hSw => ?_⟩) (by assumption) ?_
      rotate_left
      · go_simp
        with_reducible rfl
      simp only [Act.put, List.setIfInBounds_toArray, List.set_cons_zero, List.set_cons_succ]
      refine seq_take (v := ?_) rfl (by kernel_rfl) (by kernel_rfl) (by kernel_rfl) (Or.inl ⟨by rfl, fun w' hSw => ?_⟩) (by assumption) ?_
      rotate_left
      · go_simp
        with_reducible rfl
      simp only [Act.put, List.setIfInBounds_toArray, List.set_cons_zero, List.set_cons_succ]
      refine seq_take (v := ?_) rfl (by kernel_rfl) (by kernel_rfl) (by kernel_rfl) (Or.inl ⟨by rfl, fun w' hSw => ?_⟩) (by assumption) ?_
      rotate_left
      · go_simp
        with_reducible rfl
      simp only [Act.put, List.setIfInBounds_toArray, List.set_cons_zero, List.set_cons_succ]
      refine seq_do rfl (by kernel_rfl) (by rfl) (fun K hK => ?_)
      go_simp
      refine (bsure_any w8).mono ?_
      rintro e w10 ⟨rfl, hk10⟩
      have H10 := Lib.hid (show w10.heap[gr]? = some (.cells cs.toArray 31 (0, 0)) ∧ Keeps [] w w10 from ⟨(hk10.block gr (lt_of_block H8.out.1) (by simp)).trans H8.out.1, H8.out.2.2.trans hk10 (by simp)⟩)
      refine hK.out (fun z' => z'.heap[gr]? = some (.cells (cs : List Value).toArray 31 (0, 0))) _ _ (fun _ h => h) H10.out.1 (fun hS => ?_)
      refine seq_take (v := ?_) rfl (by kernel_rfl) (by kernel_rfl) (by kernel_rfl) (Or.inl ⟨by rfl, fun w' hSw => ?_⟩) (by assumption) ?_
      rotate_left
      · go_simp
        with_reducible rfl
      simp only [Act.put, List.setIfInBounds_toArray, List.set_cons_zero, List.set_cons_succ]
      refine seq_take (v := ?_) rfl (by kernel_rfl) (by kernel_rfl) (by kernel_rfl) (Or.inl ⟨by rfl, fun w' hSw => ?_⟩) (by assumption) ?_
      rotate_left
      · go_simp
        with_reducible rfl
      simp only [Act.put, List.setIfInBounds_toArray, List.set_cons_zero, List.set_cons_succ]
      refine seq_done (by kernel_rfl) ?_
      all_goals skip
      go_wp2_with fail
      go_ret
      exact ⟨rfl, H10.out.2⟩
  · have hf2 := noFit_four hfit
    have HF := Lib.hid hfit
    clear hf2 hfit
    go_enter Tryd.func3, Tryd.ntmps3
    go_wp2_with fail
    refine (bnew_no x y _ HF.out).mono ?_
    rintro e w1 ⟨rfl, hk1⟩
    have c0 : w1.cell? ⟨w.heap.size, 0, none⟩ = some (.int .i64 x) := hk1.cell (by simp) (by simp)
    have c1 : w1.cell? ⟨w.heap.size, 1, none⟩ = some (.int .i64 y) := hk1.cell (by simp) (by simp)
    have H1 := Lib.hid (((Keeps.refl [] w).alloc _).trans hk1 (by simp))
    clear hk1
    rw [errV_other (by decide)]
    go_wp2_with fail
    refine (rnew_no x y _ HF.out).mono ?_
    rintro e w2 ⟨rfl, hk2⟩
    have H2 := Lib.hid (H1.out.trans hk2 (by simp))
    clear hk2 H1 c0 c1
    go_wp2_with fail
    have H3 := Lib.hid (show Keeps [] w (w2.alloc (.cells #[.int .i64 0, .slice none 0 0] 31)) from H2.out.alloc _)
    refine (num_err 1 _ (HTT.out.keeps H3.out (by simp))).mono ?_
    rintro e w4 ⟨rfl, hk4⟩
    have H4 := Lib.hid (H3.out.trans hk4 (by simp))
    clear hk4 H3 H2
    go_wp2_with fail
    refine (num_err 1 _ (HTT.out.keeps H4.out (by simp))).mono ?_
    rintro e w5 ⟨rfl, hk5⟩
    have H5 := Lib.hid (H4.out.trans hk5 (by simp))
    clear hk5 H4
    go_wp2_with fail
    refine (bsure_any _).mono ?_
    rintro e w6 ⟨rfl, hk6⟩
    have H6 := Lib.hid (H5.out.trans hk6 (by simp))
    clear hk6
    go_wp2_with fail
    go_ret
    exact ⟨rfl, H6.out⟩
theorem lawbits_row (p : Int × Int × Unit) (x : ByteArray) (w : World) (ht : HT w) (hs : x.size ≤ 140737488351232) :
    Calls Tryd.prog 3 #[.agg ((K.pair (K.int .i64) (K.pair (K.int .i64) K.nil)).cells p).toArray, .string x] w fun e w' => e = .returned (.bool true) ∧ Below w.heap.size w w' :=
  (lawbits_any p.1 p.2.1 x.data.toList w ht hs).mono fun _ _ h => ⟨h.1, h.2.below (Nat.le_refl _) (by simp)⟩
end Go.Proofs.YthppbefemfkccaaDoor
