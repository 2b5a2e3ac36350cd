/- The law on the filter of any bytes: called with any bytes it answers true. What a row's condition on package errors' variable gives. What the row's condition on package errors' variable gives, and a world that meets it. How a statement's arguments are read: from data to the words of Base. No program is named here. -/
import Derived.Test.YthppbefemfkccaaDoorQBloomReads8
import Derived.Test.YthppbefemfkccaaDoorQBloomReads11
import Derived.Test.YthppbefemfkccaaDoorQBloomReads12
import Derived.Test.YthppbefemfkccaaDoorQBloomReads13
import Derived.Test.YthppbefemfkccaaDoorRows
import Derived.ChangeSame
import Derived.ChangeVars
import Derived.JoinedOf
import Derived.LaidLaws
import Derived.LaidHandle
import Derived.Stop.Joined
import Derived.RowKit
import Derived.Test.YthppbefemfkccaaDoorQBloomReads1
import Derived.ProofKit
import Derived.OpenShut
import Derived.SizedLaws
namespace Go.Proofs.YthppbefemfkccaaDoor
open Go.RowKit
attribute [local irreducible] bitsK orAll encK fullK

set_option maxRecDepth 100000 in
set_option maxHeartbeats 8000000 in
theorem reads_any (A : Option Addr) (b : List UInt8) (c : Nat) (w : World) (ht : HT w) (hl : b.length ≤ 140737488351232) (hc : b.length ≤ c) (hr : RdB w A b) (hA : ∀ a, A = some a → 0 < b.length → a.block < w.heap.size) :
    Calls Tryd.prog 5 #[.slice A b.length c] w fun e w' => e = .returned (.bool true) ∧ Keeps [] w w' := by
  have HTT := Lib.hid ht
  have H0 := Lib.hid (And.intro (And.intro hl hc) (And.intro hr hA))
  clear ht hl hc hr hA
  go_enter Tryd.func5, Tryd.ntmps5
  go_wp2_with fail
  refine (dec_any A b c w H0.out.1.1 H0.out.1.2 H0.out.2.1 H0.out.2.2).mono ?_
  rintro e w1 hp
  have HP := Lib.hid hp
  rcases hp with ⟨hok, g, Af, cf, rfl, hf, _, _, hk1⟩ | ⟨hno, rfl, hk1⟩
  · have HOK := Lib.hid hok
    have H1 := Lib.hid (And.intro hf hk1)
    clear HP hok hf hk1
    go_wp2_with fail
    refine (rdec_any A b c w1 H0.out.1.1 H0.out.1.2 (H0.out.2.1.keeps0 H1.out.2) (fun a ha h0 => Nat.lt_of_lt_of_le (H0.out.2.2 a ha h0) H1.out.2.size)).mono ?_
    rintro e w2 hp
    rcases hp with ⟨_, gb, rfl, hgb, hrow, hk2⟩ | ⟨hno, _⟩
    rotate_left
    · exact absurd HOK.out hno
    have H2 := Lib.hid (show Fm w2 g (nK b) (kK b) Af cf (xK b) ∧ w2.heap[gb]? = some (.cells (bitsL (nK b) (xK b)).toArray 4 (0, 0)) ∧ Keeps [] w w2 from ⟨H1.out.1.keeps0 hk2, hrow, H1.out.2.trans hk2 (by simp)⟩)
    obtain ⟨n, hn⟩ : ∃ n, n = nK b := ⟨_, rfl⟩
    obtain ⟨k, hk⟩ : ∃ k, k = kK b := ⟨_, rfl⟩
    obtain ⟨x, hx⟩ : ∃ x, x = xK b := ⟨_, rfl⟩
    rw [← hn, ← hk, ← hx] at H2
    rw [← hn, ← hk]
    have HNK := Lib.hid (And.intro hn (And.intro hk hx))
    clear hgb hrow hk2 H1 hn hk hx
    obtain ⟨gr, hgr⟩ : ∃ gr, gr = w2.heap.size := ⟨_, rfl⟩
    have HG := Lib.hid hgr
    clear hgr
    go_wp2_with fail
    have H3 := Lib.hid (show (w2.alloc (.cells #[.int .i64 (k : Int), .slice (some ⟨gb, 0, none⟩) n n] 31)).heap[gr]? = some (.cells #[.int .i64 (k : Int), .slice (some ⟨gb, 0, none⟩) n n] 31 (0, 0)) ∧ Keeps [] w2 (w2.alloc (.cells #[.int .i64 (k : Int), .slice (some ⟨gb, 0, none⟩) n n] 31)) from ⟨by rw [HG.out]; exact heap_alloc_new _ _, (Keeps.refl [] w2).alloc _⟩)
    refine (num_nil _).mono ?_
    rintro e w4 ⟨rfl, hk4⟩
    have H4 := Lib.hid (show Fm w4 g n k Af cf x ∧ w4.heap[gb]? = some (.cells (bitsL n x).toArray 4 (0, 0)) ∧ w4.heap[gr]? = some (.cells #[.int .i64 (k : Int), .slice (some ⟨gb, 0, none⟩) n n] 31 (0, 0)) ∧ Keeps [] w w4 from
      ⟨H2.out.1.keeps0 (H3.out.2.trans hk4 (by simp)), ((H3.out.2.trans hk4 (by simp)).block gb (lt_of_block H2.out.2.1) (by simp)).trans H2.out.2.1, (hk4.block gr (lt_of_block H3.out.1) (by simp)).trans H3.out.1, H2.out.2.2.trans (H3.out.2.trans hk4 (by simp)) (by simp)⟩)
    clear hk4 H3 H2
    rw [← HG.out]
    go_wp2_with fail
    have HFIT := Lib.hid (show n ≤ 1048576 ∧ k ≤ 16 ∧ x.length ≤ 1048576 ∧ encK n k x = b ∧ x.length = (n + 7) / 8 from by
      have h1 := HOK.out.2.1
      have h2 := HOK.out.2.2.1
      rw [← HNK.out.1, ← HNK.out.2.1] at h1
      rw [← HNK.out.1, ← HNK.out.2.2] at h2
      unfold FitB at h1
      refine ⟨by omega, by omega, by omega, ?_, h2⟩
      rw [HNK.out.1, HNK.out.2.1, HNK.out.2.2]
      exact enc_dec HOK.out)
    have HR4 := Lib.hid (show RdB w4 A b from H0.out.2.1.keeps0 H4.out.2.2.2)
    refine seq_start (by kernel_rfl) (fun z => Keeps [] w4 z) 21 [0, 1, 2, 3, 4, 5, 6, 7, 8, 9, 10, 11, 12, 13, 14, 15, 16, 17, 18, 19, 20] rfl ((Keeps.refl [] w4).drew) (fun hS => ?_)
    have F0 := conv_keeps (P := Tryd.prog) (dst := 9) Tryd.underlying44 Tryd.underlying5 Tryd.underlying9 HR4.out c
    have H5 := Lib.hid (show Fm w4.drew g n k Af cf x ∧ w4.drew.heap[gb]? = some (.cells (bitsL n x).toArray 4 (0, 0)) ∧ w4.drew.heap[gr]? = some (.cells #[.int .i64 (k : Int), .slice (some ⟨gb, 0, none⟩) n n] 31 (0, 0)) ∧ Keeps [] w w4.drew ∧ RdB w4.drew A b from ⟨H4.out.1, H4.out.2.1, H4.out.2.2.1, H4.out.2.2.2.drew, HR4.out.drew⟩)
    refine seq_take (v := ?_) rfl (by kernel_rfl) (by kernel_rfl) (by kernel_rfl) (Or.inl ⟨by rfl, fun w' hSw => ?_⟩) (by assumption) ?_
    rotate_left
    · go_simp
      with_reducible rfl
    simp only [Act.put, List.setIfInBounds_toArray, List.set_cons_zero, List.set_cons_succ]
    refine seq_take (v := ?_) rfl (by kernel_rfl) (by kernel_rfl) (by kernel_rfl) (Or.inl ⟨by rfl, fun w' hSw => ?_⟩) (by assumption) ?_
    rotate_left
    · go_simp
      with_reducible rfl
    simp only [Act.put, List.setIfInBounds_toArray, List.set_cons_zero, List.set_cons_succ]
    refine seq_take (v := ?_) rfl (by kernel_rfl) (by kernel_rfl) (by kernel_rfl) (Or.inl ⟨by rfl, fun w' hSw => ?_⟩) (by assumption) ?_
    rotate_left
    · go_simp
      with_reducible rfl
    simp only [Act.put, List.setIfInBounds_toArray, List.set_cons_zero, List.set_cons_succ]
    refine seq_take (v := ?_) rfl (by kernel_rfl) (by kernel_rfl) (by kernel_rfl) (Or.inl ⟨by rfl, fun w' hSw => ?_⟩) (by assumption) ?_
    rotate_left
    · go_simp
      with_reducible rfl
    simp only [Act.put, List.setIfInBounds_toArray, List.set_cons_zero, List.set_cons_succ]
    iterate 2 (refine seq_later ?_; simp only [List.cons_append, List.nil_append])
    refine seq_take (v := ?_) rfl (by kernel_rfl) (by kernel_rfl) (by kernel_rfl) (Or.inl ⟨by rfl, fun w' hSw => ?_⟩) (by assumption) ?_
    rotate_left
    · go_simp
      with_reducible rfl
    simp only [Act.put, List.setIfInBounds_toArray, List.set_cons_zero, List.set_cons_succ]
    refine seq_take (v := ?_) rfl (by kernel_rfl) (by kernel_rfl) (by kernel_rfl) (Or.inl ⟨by rfl, fun w' hSw => ?_⟩) (by assumption) ?_
    rotate_left
    · go_simp
      with_reducible rfl
    simp only [Act.put, List.setIfInBounds_toArray, List.set_cons_zero, List.set_cons_succ]
    iterate 13 (refine seq_later ?_; simp only [List.cons_append, List.nil_append])
    refine seq_do rfl (by kernel_rfl) (by rfl) (fun K hK => ?_)
    go_simp
    refine (enc_any g n k Af cf x _ H5.out.1 HFIT.out.1 HFIT.out.2.1 HFIT.out.2.2.1).mono ?_
    rintro e w6 ⟨A6, c6, l6, hl6, rfl, ho6, hn6, hk6⟩
    obtain rfl : l6 = b := hl6.out.trans HFIT.out.2.2.2.1
    have HK6 := Lib.hid ((Keeps.refl [] w4).drew.trans hk6 (by simp))
    have H6 := Lib.hid (show Fm w6 g n k Af cf x ∧ w6.heap[gb]? = some (.cells (bitsL n x).toArray 4 (0, 0)) ∧ w6.heap[gr]? = some (.cells #[.int .i64 (k : Int), .slice (some ⟨gb, 0, none⟩) n n] 31 (0, 0)) ∧ Keeps [] w w6 from
      ⟨H5.out.1.keeps0 hk6, (hk6.block gb (lt_of_block H5.out.2.1) (by simp)).trans H5.out.2.1, (hk6.block gr (lt_of_block H5.out.2.2.1) (by simp)).trans H5.out.2.2.1, H5.out.2.2.2.1.trans hk6 (by simp)⟩)
    have F1 := conv_keeps (P := Tryd.prog) (dst := 9) Tryd.underlying44 Tryd.underlying5 Tryd.underlying9 ho6.rd c6
    have hq0 : ∀ z, Keeps [] w6 z → z.cell? ⟨gr, 0, none⟩ = some (.int .i64 (k : Int)) := fun z hz => hz.cell (by rw [cell_of_row _ _ _ _ _ _ H6.out.2.2.1]; rfl) (by simp)
    have hq1 : ∀ z, Keeps [] w6 z → z.cell? ⟨gr, 1, none⟩ = some (.slice (some ⟨gb, 0, none⟩) n n) := fun z hz => hz.cell (by rw [cell_of_row _ _ _ _ _ _ H6.out.2.2.1]; rfl) (by simp)
    clear hl6 ho6 hn6 hk6
    refine hK.out (fun z => Keeps [] w6 z) _ _ (fun _ h => HK6.out.trans h (by simp)) (Keeps.refl [] w6) (fun hS => ?_)
    refine seq_take (v := ?_) rfl (by kernel_rfl) (by kernel_rfl) (by kernel_rfl) (Or.inl ⟨by rfl, fun w' hSw => ?_⟩) (by assumption) ?_
    rotate_left
    · go_simp
      with_reducible rfl
    simp only [Act.put, List.setIfInBounds_toArray, List.set_cons_zero, List.set_cons_succ]
    refine seq_take (v := ?_) rfl (by kernel_rfl) (by kernel_rfl) (by kernel_rfl) (Or.inl ⟨by rfl, fun w' hSw => ?_⟩) (by assumption) ?_
    rotate_left
    · go_simp
      with_reducible rfl
    simp only [Act.put, List.setIfInBounds_toArray, List.set_cons_zero, List.set_cons_succ]
    refine seq_take (v := ?_) rfl (by kernel_rfl) (by kernel_rfl) (by kernel_rfl) (Or.inl ⟨by rfl, fun w' hSw => ?_⟩) (by assumption) ?_
    rotate_left
    · go_simp
      with_reducible rfl
    simp only [Act.put, List.setIfInBounds_toArray, List.set_cons_zero, List.set_cons_succ]
    refine seq_take (v := ?_) rfl (by kernel_rfl) (by kernel_rfl) (by kernel_rfl) (Or.inl ⟨by rfl, fun w' hSw => ?_⟩) (by assumption) ?_
    rotate_left
    · go_simp
      with_reducible rfl
    simp only [Act.put, List.setIfInBounds_toArray, List.set_cons_zero, List.set_cons_succ]
    iterate 1 (refine seq_later ?_; simp only [List.cons_append, List.nil_append])
    refine seq_take (v := ?_) rfl (by kernel_rfl) (by kernel_rfl) (by kernel_rfl) (Or.inl ⟨by rfl, fun w' hSw => ?_⟩) (by assumption) ?_
    rotate_left
    · go_simp
      with_reducible rfl
    simp only [Act.put, List.setIfInBounds_toArray, List.set_cons_zero, List.set_cons_succ]
    iterate 8 (refine seq_later ?_; simp only [List.cons_append, List.nil_append])
    refine seq_do rfl (by kernel_rfl) (by rfl) (fun K hK => ?_)
    go_simp
    refine (full_any g n k Af cf x w6 H6.out.1 HFIT.out.2.2.1).mono ?_
    rintro e w7 ⟨rfl, rfl⟩
    refine hK.out (fun z => Keeps [] w6 z) _ _ (fun _ h => h) (Keeps.refl [] w6) (fun hS => ?_)
    refine seq_do rfl (by kernel_rfl) (by rfl) (fun K hK => ?_)
    go_simp
    have hbs : n = ((List.range n).map (hasBit x)).length := by simp
    have hbl : bitsL n x = ((List.range n).map (hasBit x)).map Value.bool := by unfold bitsL; rw [List.map_map]; rfl
    obtain ⟨bs, hbs0⟩ : ∃ bs, bs = (List.range n).map (hasBit x) := ⟨_, rfl⟩
    rw [← hbs0] at hbs hbl
    have HRF := rfull_any k gb bs w6 (by rw [← hbs]; exact HFIT.out.1) (by rw [← hbl]; exact H6.out.2.1)
    rw [← hbs] at HRF
    refine HRF.mono ?_
    rintro e w8 ⟨rfl, hk8⟩
    have hfc : cntL bs = fullK x := by
      rw [hbs0]
      refine (fullK_bits (m := (n + 7) / 8) HFIT.out.2.2.2.2 (by omega) (fun t h1 h2 => ?_)).symm
      have hsp := HOK.out.2.2.2
      cases hb : hasBit x t with
      | false => rfl
      | true => exact absurd (by rw [HNK.out.1, HNK.out.2.2]; exact hsp) (spare_some rfl HFIT.out.2.2.2.2 h1 h2 hb)
    rw [hfc]
    clear hbs hbl hbs0 hfc HRF
    have H8 := Lib.hid (H6.out.2.2.2.trans hk8 (by simp))
    have HK8 := Lib.hid hk8
    clear hk8
    refine hK.out (fun z => Keeps [] w8 z) _ _ (fun _ h => HK8.out.trans h (by simp)) (Keeps.refl [] w8) (fun hS => ?_)
    refine seq_take (v := ?_) rfl (by kernel_rfl) (by kernel_rfl) (by kernel_rfl) (Or.inl ⟨by rfl, fun w' hSw => ?_⟩) (by assumption) ?_
    rotate_left
    · go_simp
      with_reducible rfl
    simp only [Act.put, List.setIfInBounds_toArray, List.set_cons_zero, List.set_cons_succ]
    refine seq_take (v := ?_) rfl (by kernel_rfl) (by kernel_rfl) (by kernel_rfl) (Or.inl ⟨by rfl, fun w' hSw => ?_⟩) (by assumption) ?_
    rotate_left
    · go_simp
      with_reducible rfl
    simp only [Act.put, List.setIfInBounds_toArray, List.set_cons_zero, List.set_cons_succ]
    refine seq_take (v := ?_) rfl (by kernel_rfl) (by kernel_rfl) (by kernel_rfl) (Or.inl ⟨by rfl, fun w' hSw => ?_⟩) (by assumption) ?_
    rotate_left
    · go_simp
      with_reducible rfl
    simp only [Act.put, List.setIfInBounds_toArray, List.set_cons_zero, List.set_cons_succ]
    refine seq_take (v := ?_) rfl (by kernel_rfl) (by kernel_rfl) (by kernel_rfl) (Or.inl ⟨by rfl, fun w' hSw => ?_⟩) (by assumption) ?_
    rotate_left
    · go_simp
      with_reducible rfl
    simp only [Act.put, List.setIfInBounds_toArray, List.set_cons_zero, List.set_cons_succ]
    refine seq_do rfl (by kernel_rfl) (by rfl) (fun K hK => ?_)
    go_simp
    refine (bsure_any _).mono ?_
    rintro e w9 ⟨rfl, hk9⟩
    have H9 := Lib.hid (H8.out.trans hk9 (by simp))
    have HK9 := Lib.hid hk9
    clear hk9
    refine hK.out (fun z => Keeps [] w9 z) _ _ (fun _ h => HK9.out.trans h (by simp)) (Keeps.refl [] w9) (fun hS => ?_)
    refine seq_take (v := ?_) rfl (by kernel_rfl) (by kernel_rfl) (by kernel_rfl) (Or.inl ⟨by rfl, fun w' hSw => ?_⟩) (by assumption) ?_
    rotate_left
    · go_simp
      with_reducible rfl
    simp only [Act.put, List.setIfInBounds_toArray, List.set_cons_zero, List.set_cons_succ]
    refine seq_take (v := ?_) rfl (by kernel_rfl) (by kernel_rfl) (by kernel_rfl) (Or.inl ⟨by rfl, fun w' hSw => ?_⟩) (by assumption) ?_
    rotate_left
    · go_simp
      with_reducible rfl
    simp only [Act.put, List.setIfInBounds_toArray, List.set_cons_zero, List.set_cons_succ]
    refine seq_done (by kernel_rfl) ?_
    all_goals skip
    go_wp2_with fail
    go_ret
    exact ⟨rfl, H9.out⟩
  · have HNO := Lib.hid hno
    have HK1 := Lib.hid hk1
    rw [errV_other (by decide)]
    clear HP hno hk1
    go_wp2_with fail
    refine (rdec_any A b c w1 H0.out.1.1 H0.out.1.2 (H0.out.2.1.keeps0 HK1.out) (fun a ha h0 => Nat.lt_of_lt_of_le (H0.out.2.2 a ha h0) HK1.out.size)).mono ?_
    rintro e w2 hp
    rcases hp with ⟨hok, _⟩ | ⟨_, rfl, hk2⟩
    · exact absurd hok HNO.out
    have HK2 := Lib.hid (HK1.out.trans hk2 (by simp))
    clear hk2
    go_wp2_with fail
    have H3 := Lib.hid (show Keeps [] w (w2.alloc (.cells #[.int .i64 0, .slice none 0 0] 31)) from HK2.out.alloc _)
    refine (num_err 3 _ (HTT.out.keeps H3.out (by simp))).mono ?_
    rintro e w4 ⟨rfl, hk4⟩
    have H4 := Lib.hid (H3.out.trans hk4 (by simp))
    clear hk4 H3 HK2
    go_wp2_with fail
    refine seq_start (by kernel_rfl) (fun _ => True) 21 [0, 1, 2, 3, 4, 5, 6, 7, 8, 9, 10, 11, 12, 13, 14, 15, 16, 17, 18, 19, 20] rfl (trivial) (fun hS => ?_)
    have H5 := Lib.hid (show Keeps [] w w4.drew from H4.out.drew)
    refine seq_take (v := ?_) rfl (by kernel_rfl) (by kernel_rfl) (by kernel_rfl) (Or.inl ⟨by rfl, fun w' hSw => ?_⟩) (by assumption) ?_
    rotate_left
    · go_simp
      with_reducible rfl
    simp only [Act.put, List.setIfInBounds_toArray, List.set_cons_zero, List.set_cons_succ]
    refine seq_take (v := ?_) rfl (by kernel_rfl) (by kernel_rfl) (by kernel_rfl) (Or.inl ⟨by rfl, fun w' hSw => ?_⟩) (by assumption) ?_
    rotate_left
    · go_simp
      with_reducible rfl
    simp only [Act.put, List.setIfInBounds_toArray, List.set_cons_zero, List.set_cons_succ]
    refine seq_take (v := ?_) rfl (by kernel_rfl) (by kernel_rfl) (by kernel_rfl) (Or.inl ⟨by rfl, fun w' hSw => ?_⟩) (by assumption) ?_
    rotate_left
    · go_simp
      with_reducible rfl
    simp only [Act.put, List.setIfInBounds_toArray, List.set_cons_zero, List.set_cons_succ]
    refine seq_take (v := undef) rfl (by kernel_rfl) (by kernel_rfl) (by kernel_rfl) (Or.inr ⟨by rfl, rfl⟩) (by assumption) ?_
    simp only [Act.put, List.setIfInBounds_toArray, List.set_cons_zero, List.set_cons_succ]
    refine seq_take (v := undef) rfl (by kernel_rfl) (by kernel_rfl) (by kernel_rfl) (Or.inr ⟨by rfl, rfl⟩) (by assumption) ?_
    simp only [Act.put, List.setIfInBounds_toArray, List.set_cons_zero, List.set_cons_succ]
    refine seq_take (v := undef) rfl (by kernel_rfl) (by kernel_rfl) (by kernel_rfl) (Or.inr ⟨by rfl, rfl⟩) (by assumption) ?_
    simp only [Act.put, List.setIfInBounds_toArray, List.set_cons_zero, List.set_cons_succ]
    refine seq_take (v := undef) rfl (by kernel_rfl) (by kernel_rfl) (by kernel_rfl) (Or.inr ⟨by rfl, rfl⟩) (by assumption) ?_
    simp only [Act.put, List.setIfInBounds_toArray, List.set_cons_zero, List.set_cons_succ]
    refine seq_take (v := undef) rfl (by kernel_rfl) (by kernel_rfl) (by kernel_rfl) (Or.inr ⟨by rfl, rfl⟩) (by assumption) ?_
    simp only [Act.put, List.setIfInBounds_toArray, List.set_cons_zero, List.set_cons_succ]
    refine seq_take (v := undef) rfl (by kernel_rfl) (by kernel_rfl) (by kernel_rfl) (Or.inr ⟨by rfl, rfl⟩) (by assumption) ?_
    simp only [Act.put, List.setIfInBounds_toArray, List.set_cons_zero, List.set_cons_succ]
    refine seq_take (v := undef) rfl (by kernel_rfl) (by kernel_rfl) (by kernel_rfl) (Or.inr ⟨by rfl, rfl⟩) (by assumption) ?_
    simp only [Act.put, List.setIfInBounds_toArray, List.set_cons_zero, List.set_cons_succ]
    refine seq_take (v := undef) rfl (by kernel_rfl) (by kernel_rfl) (by kernel_rfl) (Or.inr ⟨by rfl, rfl⟩) (by assumption) ?_
    simp only [Act.put, List.setIfInBounds_toArray, List.set_cons_zero, List.set_cons_succ]
    refine seq_take (v := undef) rfl (by kernel_rfl) (by kernel_rfl) (by kernel_rfl) (Or.inr ⟨by rfl, rfl⟩) (by assumption) ?_
    simp only [Act.put, List.setIfInBounds_toArray, List.set_cons_zero, List.set_cons_succ]
    refine seq_take (v := undef) rfl (by kernel_rfl) (by kernel_rfl) (by kernel_rfl) (Or.inr ⟨by rfl, rfl⟩) (by assumption) ?_
    simp only [Act.put, List.setIfInBounds_toArray, List.set_cons_zero, List.set_cons_succ]
    refine seq_take (v := undef) rfl (by kernel_rfl) (by kernel_rfl) (by kernel_rfl) (Or.inr ⟨by rfl, rfl⟩) (by assumption) ?_
    simp only [Act.put, List.setIfInBounds_toArray, List.set_cons_zero, List.set_cons_succ]
    refine seq_take (v := undef) rfl (by kernel_rfl) (by kernel_rfl) (by kernel_rfl) (Or.inr ⟨by rfl, rfl⟩) (by assumption) ?_
    simp only [Act.put, List.setIfInBounds_toArray, List.set_cons_zero, List.set_cons_succ]
    refine seq_take (v := undef) rfl (by kernel_rfl) (by kernel_rfl) (by kernel_rfl) (Or.inr ⟨by rfl, rfl⟩) (by assumption) ?_
    simp only [Act.put, List.setIfInBounds_toArray, List.set_cons_zero, List.set_cons_succ]
    refine seq_take (v := ?_) rfl (by kernel_rfl) (by kernel_rfl) (by kernel_rfl) (Or.inl ⟨by rfl, fun w' hSw => ?_⟩) (by assumption) ?_
    rotate_left
    · go_simp
      with_reducible rfl
    simp only [Act.put, List.setIfInBounds_toArray, List.set_cons_zero, List.set_cons_succ]
    refine seq_take (v := ?_) rfl (by kernel_rfl) (by kernel_rfl) (by kernel_rfl) (Or.inl ⟨by rfl, fun w' hSw => ?_⟩) (by assumption) ?_
    rotate_left
    · go_simp
      with_reducible rfl
    simp only [Act.put, List.setIfInBounds_toArray, List.set_cons_zero, List.set_cons_succ]
    refine seq_do rfl (by kernel_rfl) (by rfl) (fun K hK => ?_)
    go_simp
    refine (bsure_any _).mono ?_
    rintro e w6 ⟨rfl, hk6⟩
    have H6 := Lib.hid (H5.out.trans hk6 (by simp))
    refine hK.out (fun _ => True) _ _ (fun _ _ => trivial) trivial (fun hS => ?_)
    clear hk6
    refine seq_take (v := ?_) rfl (by kernel_rfl) (by kernel_rfl) (by kernel_rfl) (Or.inl ⟨by rfl, fun w' hSw => ?_⟩) (by assumption) ?_
    rotate_left
    · go_simp
      with_reducible rfl
    simp only [Act.put, List.setIfInBounds_toArray, List.set_cons_zero, List.set_cons_succ]
    refine seq_take (v := ?_) rfl (by kernel_rfl) (by kernel_rfl) (by kernel_rfl) (Or.inl ⟨by rfl, fun w' hSw => ?_⟩) (by assumption) ?_
    rotate_left
    · go_simp
      with_reducible rfl
    simp only [Act.put, List.setIfInBounds_toArray, List.set_cons_zero, List.set_cons_succ]
    refine seq_done (by kernel_rfl) ?_
    all_goals skip
    go_wp2_with fail
    go_ret
    exact ⟨rfl, H6.out⟩
theorem reads_row (A : Option Addr) (l : List UInt8) (c : Nat) (w : World) (ht : HT w) (hl : l.length ≤ 140737488351232) (hc : l.length ≤ c) (hr : RdB w A l) :
    Calls Tryd.prog 5 #[.slice A l.length c] w fun e w' => e = .returned (.bool true) ∧ Below w.heap.size w w' :=
  (reads_any A l c w ht hl hc hr (fun a ha hp => Rd.lt hr (by simpa using hp) ha)).mono fun _ _ h => ⟨h.1, h.2.below (Nat.le_refl _) (by simp)⟩
end Go.Proofs.YthppbefemfkccaaDoor
namespace Go.Proofs.YthppbefemfkccaaDoor
open Go.ChangeShapes Go.WideShapes Go.RowKit

def laidE : List (String × DataW Unit) := [("errors.errorType", Rows.laid_errors_errorType)]
theorem et : Tryd.prog.globalNamed "errors.errorType" = some 0 := by kernel_rfl
theorem rt : (Tryd.prog.cutTypes.find? (·.1 == "internal/reflectlite.rtype")).map (·.2) = some 111 := by kernel_rfl
theorem oneRow : ((List.range 154).filter fun t => Tryd.prog.rowNamed t [101, 114, 114, 111, 114]) = [26] := by kernel_rfl
theorem tsize : Tryd.prog.types.size = 154 := by kernel_rfl

/-- What the condition gives a walk: the variable's one cell. -/
theorem handle_met {W : World} (h : handlesMet Tryd.prog laidE W) : HT W := by
  obtain ⟨name, u, ty, e1, e2, e3, e4, e5⟩ := h _ (List.mem_singleton.2 rfl)
  have en : name = [101, 114, 114, 111, 114] := (Option.some.inj e1).symm
  subst en
  obtain rfl := Option.some.inj (rt.symm.trans e2)
  have hm : ty ∈ (List.range 154).filter fun t => Tryd.prog.rowNamed t [101, 114, 114, 111, 114] := List.mem_filter.2 ⟨List.mem_range.2 (by rw [← tsize]; exact e3), e4⟩
  rw [oneRow] at hm
  obtain rfl := List.mem_singleton.1 hm
  have hh : typeHandle Tryd.prog 26 = .pointer (some ⟨1, 26, none⟩) := by kernel_rfl
  rw [hh] at e5
  unfold HT
  simpa using World.var?_cell et e5 0
end Go.Proofs.YthppbefemfkccaaDoor
namespace Go.Proofs.YthppbefemfkccaaDoor
open Go.ChangeShapes Go.WideShapes Go.RowKit

theorem handle_of_laid {W : World} (h : laidMetH Tryd.prog laidE W) : HT W := by
  have h' : laidMet Tryd.prog [] W ∧ handlesMet Tryd.prog laidE W := h
  exact handle_met h'.2

/-- A world that meets the condition: the settled one, the variable's cell laid. -/
noncomputable def laidWorld (os : Os) : World :=
  let w0 := World.holding Tryd.prog os ⟨#[], #[], []⟩
  { w0 with heap := w0.heap.modify 0 fun
      | .cells _ t frozen => .cells #[.iface 111 (.agg #[.pointer (some ⟨1, 26, none⟩)])] t frozen
      | o => o }
theorem laidWorld_met (os : Os) (args : Array Value) : laidMetH Tryd.prog laidE ((laidWorld os).forCall (fun _ _ => 0) ⟨#[], args, []⟩).memory :=
  laidMetH_of_parts (laidMet_nil _ _) (by kernel_rfl)
end Go.Proofs.YthppbefemfkccaaDoor
namespace Go.Proofs.YthppbefemfkccaaDoor
open Go.RowKit Go.ChangeShapes Go.WideShapes Go.ChangeAt

theorem wf_u8 {n : Int} (h : (Lit.int .u8 n).wf = true) : 0 ≤ n ∧ n ≤ 255 := by
  simpa [Lit.wf, IntKind.min, IntKind.max, IntKind.signed, IntKind.bits] using h
theorem wf_u32 {n : Int} (h : (Lit.int .u32 n).wf = true) : 0 ≤ n ∧ n ≤ 4294967295 := by
  simpa [Lit.wf, IntKind.min, IntKind.max, IntKind.signed, IntKind.bits] using h
theorem wf_u64 {n : Int} (h : (Lit.int .u64 n).wf = true) : 0 ≤ n ∧ n ≤ 18446744073709551615 := by
  simpa [Lit.wf, IntKind.min, IntKind.max, IntKind.signed, IntKind.bits] using h
theorem wf_i64 {n : Int} (h : (Lit.int .i64 n).wf = true) : -9223372036854775808 ≤ n ∧ n ≤ 9223372036854775807 := by
  simpa [Lit.wf, IntKind.min, IntKind.max, IntKind.signed, IntKind.bits] using h

theorem u8_of {n : Int} (h : 0 ≤ n ∧ n ≤ 255) : ((UInt8.ofNat n.toNat).toNat : Int) = n := by
  rw [UInt8.toNat_ofNat']; omega

theorem encB_of (zs : List Int) (h : ∀ n ∈ zs, 0 ≤ n ∧ n ≤ 255) : encB (zs.map fun n => UInt8.ofNat n.toNat) = zs.map (Value.int .u8) := by
  unfold encB
  rw [List.map_map]
  refine List.map_congr_left (fun n hn => ?_)
  simp only [Function.comp]
  rw [u8_of (h n hn)]

theorem open_bytes {H : Type} {enc : TypeId × Value → H} {P : Program} {W : World} {r : Reach} {base : Nat} {b0 : Nat} {spare : Nat → Bool} {held : Bool} {t e : TypeId} {v : Value} {d : DataW H} {ps : List MemPlace} {ts : List TypeId} {ds : List (DataW H)} {j : Nat}
    (hu : P.underlying t = some (.slice e)) (he : P.underlying e = some (.int .u8)) (hc : P.cellsOf e = 1) (hB : P.bytesOf e = 1)
    (hsz : (DataW.weightsEach P ts ds).all (· ≤ reachBytes) = true) (ht : ts[j]? = some t) (hd : ds[j]? = some d)
    (hval : Value.okWide P W r b0 t v) (h : DataW.Trod enc P W base spare held t v d ps) :
    ∃ A l c, v = .slice A l.length c ∧ RdB W A l ∧ l.length ≤ 140737488351232 ∧ l.length ≤ c := by
  obtain ⟨A, len, cap, rfl⟩ := okWide_slice hu hval
  obtain ⟨fuel, hf⟩ := h
  rcases open_ints hu he hc hf with ⟨hcs, _⟩ | ⟨x, l, c, zs, hcs, _, hl, _, hz, hx, hcell, hw⟩
  · simp [Value.cells] at hcs
    obtain ⟨rfl, rfl, rfl⟩ := hcs
    exact ⟨none, [], 0, rfl, RdB.nil _ _, by simp, by simp⟩
  · simp [Value.cells] at hcs
    obtain ⟨rfl, rfl, rfl⟩ := hcs
    obtain ⟨hx, _⟩ := Prod.mk.inj hx
    subst hx
    have z := sized_slice hsz ht hd hu
    rw [hB] at z
    have hl2 : len ≤ zs.length := by
      rw [hz]
      split
      · exact hl
      · exact Nat.le_refl _
    have hlen : ((zs.take len).map fun n => UInt8.ofNat n.toNat).length = len := by simp; omega
    have hen : encB ((zs.take len).map fun n => UInt8.ofNat n.toNat) = (zs.take len).map (Value.int .u8) := encB_of _ (fun n hn => wf_u8 (hw n (List.mem_of_mem_take hn)))
    refine ⟨some x, (zs.take len).map fun n => UInt8.ofNat n.toNat, cap, by rw [hlen], ?_, ?_, by rw [hlen]; exact hl⟩
    · unfold RdB
      rw [hen]
      refine ⟨by simp, fun _ => ⟨x, rfl, fun j u hu => ?_⟩⟩
      rw [List.getElem?_map, List.getElem?_take] at hu
      by_cases hj : j < len
      · rw [if_pos hj] at hu
        have := hcell j (by omega)
        rw [List.getElem?_eq_getElem (by omega)] at hu
        rw [this]
        simp only [Option.map_some, Option.some.injEq] at hu
        rw [← hu]
        simp [List.getD_eq_getElem?_getD, List.getElem?_eq_getElem (show j < zs.length by omega)]
      · rw [if_neg hj] at hu; cases hu
    · have h1 : (lits (H := H) .u8 (zs.take len)).length + (lits (H := H) .u8 (zs.drop len)).length = zs.length := by
        simp [lits]
        omega
      rw [h1] at z
      unfold reachBytes at z
      rw [hlen]
      omega

/-- An array of whole numbers, by value. -/
theorem open_arr {H : Type} {enc : TypeId × Value → H} {P : Program} {W : World} {r : Reach} {base : Nat} {b0 : Nat} {spare : Nat → Bool} {held : Bool} {t e : TypeId} {q : IntKind} {n : Nat} {v : Value} {d : DataW H} {ps : List MemPlace}
    (hu : P.underlying t = some (.array n e)) (he : P.underlying e = some (.int q)) (hc : P.cellsOf e = 1) (hC : P.cellsOf t = n)
    (hval : Value.okWide P W r b0 t v) (h : DataW.Trod enc P W base spare held t v d ps) :
    ∃ xs : List Int, v = .agg (xs.map (Value.int q)).toArray ∧ xs.length = n ∧ ∀ x ∈ xs, (Lit.int q x).wf = true := by
  simp only [Value.okWide, hu] at hval
  obtain ⟨cs, rfl, hs, _⟩ := hval
  rw [hC] at hs
  obtain ⟨fuel, hf⟩ := h
  obtain ⟨ys, m, _, _, hlen, hl, hel⟩ := DataW.trod_array hu hf
  have each : ∀ i, i < n → ∃ z : Int, cs[i]? = some (.int q z) ∧ (Lit.int q z).wf = true := by
    intro i hi
    have h1 := hel i hi
    rw [hc, Nat.mul_one, List.getElem?_eq_getElem (by omega)] at h1
    obtain ⟨z, hz, _, hw⟩ := DataW.trod_int he h1
    refine ⟨z, ?_, hw⟩
    have h2 : ((Value.agg cs).cells.toList.drop i).take 1 = [.int q z] := hz
    have h3 := congrArg (fun l => l[0]?) h2
    simpa [Value.cells] using h3
  refine ⟨cs.toList.map (fun v => match v with | .int _ z => z | _ => 0), ?_, by simp [hs], ?_⟩
  · congr 1
    apply Array.ext
    · simp
    · intro i h1 h2
      obtain ⟨z, hz, _⟩ := each i (by omega)
      rw [Array.getElem?_eq_getElem h1] at hz
      simp [Option.some.inj hz]
  · intro x hx
    rw [List.mem_map] at hx
    obtain ⟨v, hv, rfl⟩ := hx
    obtain ⟨i, hi, rfl⟩ := List.mem_iff_getElem.1 hv
    obtain ⟨z, hz, hw⟩ := each i (by simpa [hs] using hi)
    simp at hi
    rw [Array.getElem?_eq_getElem hi] at hz
    simp only [Array.getElem_toList, Option.some.inj hz]
    exact hw
theorem open_arrB {H : Type} {enc : TypeId × Value → H} {P : Program} {W : World} {r : Reach} {base : Nat} {b0 : Nat} {spare : Nat → Bool} {held : Bool} {t e : TypeId} {n : Nat} {v : Value} {d : DataW H} {ps : List MemPlace}
    (hu : P.underlying t = some (.array n e)) (he : P.underlying e = some (.int .u8)) (hc : P.cellsOf e = 1) (hC : P.cellsOf t = n)
    (hval : Value.okWide P W r b0 t v) (h : DataW.Trod enc P W base spare held t v d ps) :
    ∃ l : List UInt8, v = .agg (encB l).toArray ∧ l.length = n := by
  obtain ⟨xs, rfl, hl, hw⟩ := open_arr hu he hc hC hval h
  exact ⟨xs.map fun n => UInt8.ofNat n.toNat, by rw [encB_of _ (fun x hx => wf_u8 (hw x hx))], by simpa using hl⟩
end Go.Proofs.YthppbefemfkccaaDoor
