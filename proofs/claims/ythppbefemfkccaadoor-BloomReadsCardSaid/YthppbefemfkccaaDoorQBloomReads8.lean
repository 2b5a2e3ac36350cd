/- A filter as bytes, and what must come whatever the input is: contracts. The bytes of a filter that was read are the bytes read: plain lists. Append onto a row of one's own, elements of any kind. No program is named here. The document's filter begun, the bits that a key asks for, and numbers held against one another: contracts. Powers, and how many bytes a number has, by the document: contracts. -/
import Derived.Test.YthppbefemfkccaaDoorQBloomReads7
import Derived.Test.YthppbefemfkccaaDoorQBloomReads2
import Derived.Test.YthppbefemfkccaaDoorQBloomReads6
import Derived.Test.YthppbefemfkccaaDoorQBloomReads1
import Derived.Test.YthppbefemfkccaaDoorQBloomReads4
import Derived.Test.YthppbefemfkccaaDoorQBloomReads5
import Derived.Test.YthppbefemfkccaaDoorProg
namespace Go.Proofs.YthppbefemfkccaaDoor
open Go.RowKit
theorem a_bits : bitsK 8 1 [97] = [2] := by decide
theorem a_not : mayK [0] [2] = false := by decide
theorem a_or : orAll [0] [2] = [4] := by decide
theorem a_full : fullK [4] = 1 := by decide
theorem a_may : mayK [4] [2] = true := by decide
attribute [local irreducible] bitsK orAll

def encK (n k : Nat) (bs : List UInt8) : List UInt8 := uintB n ++ uintB k ++ lenB bs
/-- A writer of one's own beside a filter. -/
def Wf2 (w0 w : World) (g n k : Nat) (A : Option Addr) (c : Nat) (bs : List UInt8) (gw : Nat) (out : List UInt8) : Prop :=
  ∃ A2 c2 o, Hid (o = out) ∧ Wr w gw A2 c2 o ∧ Fm w g n k A c bs ∧ Keeps [] w0 w ∧ w0.heap.size ≤ gw ∧ ∀ a, A2 = some a → w0.heap.size ≤ a.block
theorem Wf2.step {w0 w w' : World} {g n k : Nat} {A : Option Addr} {c : Nat} {bs : List UInt8} {gw : Nat} {s : List UInt8} {A2 : Option Addr} (hf : Fm w g n k A c bs) (hf0 : Fm w0 g n k A c bs) (hk : Keeps [] w0 w) (hg : w0.heap.size ≤ gw)
    (hA : ∀ a, A2 = some a → w0.heap.size ≤ a.block) (hst : WrStep gw A2 s w w') : Wf2 w0 w' g n k A c bs gw s := by
  obtain ⟨A3, c3, o3, ho, hw3, hk3, hn3⟩ := hst
  have hlt := hf0.lt
  have hltA := fun a ha => hf0.2.1.lt a ha
  have hni : ∀ t ∈ gw :: blk A2, w0.heap.size ≤ t := by
    intro t ht
    rcases List.mem_cons.1 ht with rfl | ht
    · exact hg
    · obtain ⟨a, ha, rfl⟩ := mem_blk.1 ht
      exact hA a ha
  refine ⟨A3, c3, o3, ho, hw3, hf.keeps hk3 (fun hm => by have := hni _ hm; omega) (fun a ha hm => by have := hni _ hm; have := hltA a ha; omega), hk.trans hk3 (fun t ht => .inr (hni t ht)), hg, fun a ha => ?_⟩
  rcases hn3 a ha with h | h
  · obtain ⟨a1, e1, e2⟩ := mem_blk.1 h
    have := hA a1 e1
    omega
  · exact Nat.le_trans hk.size h
set_option maxHeartbeats 4000000 in
theorem enc_any (g n k : Nat) (A : Option Addr) (c : Nat) (bs : List UInt8) (w : World) (h : Fm w g n k A c bs) (hn : n ≤ 1048576) (hk : k ≤ 16) (hb : bs.length ≤ 1048576) :
    Calls Tryd.prog 17 #[.pointer (some ⟨g, 0, none⟩)] w (NewB 5 (encK n k bs) w) := by
  have H := Lib.hid h
  have HB := Lib.hid (And.intro (And.intro hn hk) hb)
  have qa : ∀ z : World, Fm z g n k A c bs → z.cell? ⟨g, 0, none⟩ = some (.int .i64 (n : Int)) := fun z hz => hz.cells.1
  have qb : ∀ z : World, Fm z g n k A c bs → z.cell? ⟨g, 1, none⟩ = some (.int .i64 (k : Int)) := fun z hz => hz.cells.2.1
  have qc : ∀ z : World, Fm z g n k A c bs → z.cell? ⟨g, 2, none⟩ = some (.slice A bs.length c) := fun z hz => hz.cells.2.2
  have f1 : IntKind.u64.wrap (n : Int) = (n : Int) := by rw [IntKind.wrap_u64]; omega
  have f2 : IntKind.u64.wrap (k : Int) = (k : Int) := by rw [IntKind.wrap_u64]; omega
  clear h hn hk hb
  go_enter Tryd.func17, Tryd.ntmps17
  go_wp2_with fail
  refine seq_start (by kernel_rfl) (fun z => Fm z g n k A c bs) 20 [0, 1, 2, 3, 4, 5, 6, 7, 8, 9, 10, 11, 12, 13, 14, 15, 16, 17, 18, 19] rfl (H.out) (fun hS => ?_)
  have HD := Lib.hid (show Fm w.drew g n k A c bs ∧ Keeps [] w w.drew from ⟨H.out, (Keeps.refl [] w).drew⟩)
  generalize w.drew = V at HD hS ⊢
  iterate 1 (refine seq_later ?_; simp only [List.cons_append, List.nil_append])
  refine seq_take (v := ?_) rfl (by kernel_rfl) (by kernel_rfl) (by kernel_rfl) (Or.inl ⟨by rfl, fun w' hSw => ?_⟩) (by assumption) ?_
  rotate_left
  · go_simp
    with_reducible rfl
  simp only [Act.put, List.setIfInBounds_toArray, List.set_cons_zero, List.set_cons_succ]
  refine seq_take (v := ?_) rfl (by kernel_rfl) (by kernel_rfl) (by kernel_rfl) (Or.inl ⟨by rfl, fun w' hSw => ?_⟩) (by assumption) ?_
  rotate_left
  · go_simp
    with_reducible rfl
  simp only [Act.put, List.setIfInBounds_toArray, List.set_cons_zero, List.set_cons_succ]
  refine seq_take (v := ?_) rfl (by kernel_rfl) (by kernel_rfl) (by kernel_rfl) (Or.inl ⟨by rfl, fun w' hSw => ?_⟩) (by assumption) ?_
  rotate_left
  · go_simp
    with_reducible rfl
  simp only [Act.put, List.setIfInBounds_toArray, List.set_cons_zero, List.set_cons_succ]
  refine seq_take (v := ?_) rfl (by kernel_rfl) (by kernel_rfl) (by kernel_rfl) (Or.inl ⟨by rfl, fun w' hSw => ?_⟩) (by assumption) ?_
  rotate_left
  · go_simp
    with_reducible rfl
  simp only [Act.put, List.setIfInBounds_toArray, List.set_cons_zero, List.set_cons_succ]
  refine seq_take (v := ?_) rfl (by kernel_rfl) (by kernel_rfl) (by kernel_rfl) (Or.inl ⟨by rfl, fun w' hSw => ?_⟩) (by assumption) ?_
  rotate_left
  · go_simp
    with_reducible rfl
  simp only [Act.put, List.setIfInBounds_toArray, List.set_cons_zero, List.set_cons_succ]
  iterate 1 (refine seq_later ?_; simp only [List.cons_append, List.nil_append])
  refine seq_take (v := ?_) rfl (by kernel_rfl) (by kernel_rfl) (by kernel_rfl) (Or.inl ⟨by rfl, fun w' hSw => ?_⟩) (by assumption) ?_
  rotate_left
  · go_simp
    with_reducible rfl
  simp only [Act.put, List.setIfInBounds_toArray, List.set_cons_zero, List.set_cons_succ]
  refine seq_take (v := ?_) rfl (by kernel_rfl) (by kernel_rfl) (by kernel_rfl) (Or.inl ⟨by rfl, fun w' hSw => ?_⟩) (by assumption) ?_
  rotate_left
  · go_simp
    with_reducible rfl
  simp only [Act.put, List.setIfInBounds_toArray, List.set_cons_zero, List.set_cons_succ]
  refine seq_take (v := ?_) rfl (by kernel_rfl) (by kernel_rfl) (by kernel_rfl) (Or.inl ⟨by rfl, fun w' hSw => ?_⟩) (by assumption) ?_
  rotate_left
  · go_simp
    with_reducible rfl
  simp only [Act.put, List.setIfInBounds_toArray, List.set_cons_zero, List.set_cons_succ]
  refine seq_take (v := ?_) rfl (by kernel_rfl) (by kernel_rfl) (by kernel_rfl) (Or.inl ⟨by rfl, fun w' hSw => ?_⟩) (by assumption) ?_
  rotate_left
  · go_simp
    with_reducible rfl
  simp only [Act.put, List.setIfInBounds_toArray, List.set_cons_zero, List.set_cons_succ]
  refine seq_take (v := ?_) rfl (by kernel_rfl) (by kernel_rfl) (by kernel_rfl) (Or.inl ⟨by rfl, fun w' hSw => ?_⟩) (by assumption) ?_
  rotate_left
  · go_simp
    with_reducible rfl
  simp only [Act.put, List.setIfInBounds_toArray, List.set_cons_zero, List.set_cons_succ]
  iterate 1 (refine seq_later ?_; simp only [List.cons_append, List.nil_append])
  refine seq_take (v := ?_) rfl (by kernel_rfl) (by kernel_rfl) (by kernel_rfl) (Or.inl ⟨by rfl, fun w' hSw => ?_⟩) (by assumption) ?_
  rotate_left
  · go_simp
    with_reducible rfl
  simp only [Act.put, List.setIfInBounds_toArray, List.set_cons_zero, List.set_cons_succ]
  refine seq_take (v := ?_) rfl (by kernel_rfl) (by kernel_rfl) (by kernel_rfl) (Or.inl ⟨by rfl, fun w' hSw => ?_⟩) (by assumption) ?_
  rotate_left
  · go_simp
    with_reducible rfl
  simp only [Act.put, List.setIfInBounds_toArray, List.set_cons_zero, List.set_cons_succ]
  refine seq_take (v := ?_) rfl (by kernel_rfl) (by kernel_rfl) (by kernel_rfl) (Or.inl ⟨by rfl, fun w' hSw => ?_⟩) (by assumption) ?_
  rotate_left
  · go_simp
    with_reducible rfl
  simp only [Act.put, List.setIfInBounds_toArray, List.set_cons_zero, List.set_cons_succ]
  refine seq_take (v := ?_) rfl (by kernel_rfl) (by kernel_rfl) (by kernel_rfl) (Or.inl ⟨by rfl, fun w' hSw => ?_⟩) (by assumption) ?_
  rotate_left
  · go_simp
    with_reducible rfl
  simp only [Act.put, List.setIfInBounds_toArray, List.set_cons_zero, List.set_cons_succ]
  iterate 3 (refine seq_later ?_; simp only [List.cons_append, List.nil_append])
  refine seq_do rfl (by kernel_rfl) (by rfl) (fun K hK => ?_)
  go_simp
  refine (new_any V).mono ?_
  rintro e w1 ⟨rfl, hw1, hk1⟩
  have H1 := Lib.hid (show Fm w1 g n k A c bs ∧ Keeps [] w w1 ∧ w.heap.size ≤ V.heap.size ∧ Wr w1 V.heap.size none 0 [] from ⟨HD.out.1.keeps0 hk1, HD.out.2.trans hk1 (by simp), HD.out.2.size, hw1⟩)
  clear hw1 hk1
  obtain ⟨gw, hgw⟩ : ∃ gw, gw = V.heap.size := ⟨_, rfl⟩
  rw [← hgw] at H1 ⊢
  clear hgw
  refine hK.out (fun z => Fm z g n k A c bs) _ _ (fun _ h => h) H1.out.1 (fun hS => ?_)
  refine seq_do rfl (by kernel_rfl) (by rfl) (fun K hK => ?_)
  go_simp
  refine (uint_any n gw none 0 [] w1 (by have := HB.out.1.1; omega) H1.out.2.2.2 (by simp)).mono ?_
  intro e w2 hp
  obtain ⟨rfl, hst⟩ := hp.step
  have h2 := Wf2.step H1.out.1 H.out H1.out.2.1 H1.out.2.2.1 (by simp) hst
  obtain ⟨A2, c2, o2, ho2, hw2⟩ := h2
  have H2 := Lib.hid hw2
  clear hw2 hst hp
  refine hK.out (fun z => Fm z g n k A c bs) _ _ (fun _ h => h) H2.out.2.1 (fun hS => ?_)
  refine seq_do rfl (by kernel_rfl) (by rfl) (fun K hK => ?_)
  go_simp
  refine (uint_any k gw A2 c2 o2 w2 (by have := HB.out.1.2; omega) H2.out.1 (by rw [ho2.out]; have := length_uintB_le n; simp at this ⊢; omega)).mono ?_
  intro e w3 hp
  obtain ⟨rfl, hst⟩ := hp.step
  have h3 := Wf2.step H2.out.2.1 H.out H2.out.2.2.1 H2.out.2.2.2.1 H2.out.2.2.2.2 hst
  obtain ⟨A3, c3, o3, ho3, hw3⟩ := h3
  have HO3 := Lib.hid (show o3 = uintB n ++ uintB k by rw [ho3.out, ho2.out]; rfl)
  have H3 := Lib.hid hw3
  clear hw3 hst hp ho3
  refine hK.out (fun z => Fm z g n k A c bs) _ _ (fun _ h => h) H3.out.2.1 (fun hS => ?_)
  refine seq_do rfl (by kernel_rfl) (by rfl) (fun K hK => ?_)
  go_simp
  refine (bytes_any gw A3 c3 o3 A bs c w3 H3.out.1 H3.out.2.1.2.1.rd (fun a ha _ => by
      have h1 := H.out.2.1.lt a ha
      refine ⟨by have := H3.out.2.2.2.1; omega, fun hm => ?_⟩
      obtain ⟨a1, e1, e2⟩ := mem_blk.1 hm
      have := H3.out.2.2.2.2 a1 e1
      omega) (by rw [HO3.out]; have h1 := length_uintB_le n; have h2 := length_uintB_le k; have := HB.out.2; rw [List.length_append]; omega)).mono ?_
  intro e w4 hp
  obtain ⟨rfl, hst⟩ := hp.step
  have h4 := Wf2.step H3.out.2.1 H.out H3.out.2.2.1 H3.out.2.2.2.1 H3.out.2.2.2.2 hst
  obtain ⟨A4, c4, o4, ho4, hw4⟩ := h4
  have HO4 := Lib.hid (show o4 = encK n k bs by rw [ho4.out, HO3.out]; rfl)
  have H4 := Lib.hid hw4
  clear hw4 hst hp ho4
  refine hK.out (fun z => Fm z g n k A c bs) _ _ (fun _ h => h) H4.out.2.1 (fun hS => ?_)
  refine seq_do rfl (by kernel_rfl) (by rfl) (fun K hK => ?_)
  go_simp
  refine (done_any gw A4 c4 o4 w4 H4.out.1 (by
      rw [HO4.out]; unfold encK lenB; have h1 := length_uintB_le n; have h2 := length_uintB_le k; have h3 := length_uintB_le bs.length; have := HB.out.2
      rw [List.length_append, List.length_append, List.length_append]; omega)).mono ?_
  rintro e w5 ⟨A5, c5, o5, ho5, rfl, hown, hnew, hk5⟩
  have H5 := Lib.hid (show NewB 5 (encK n k bs) w (.returned (.slice A5 o5.length c5)) w5 from ⟨A5, c5, o5, by show _ = _; rw [ho5.out, HO4.out], rfl, hown, fun a ha => Nat.le_trans H4.out.2.2.1.size (hnew a ha), H4.out.2.2.1.trans hk5 (by simp)⟩)
  have HF5 := Lib.hid (H4.out.2.1.keeps0 hk5)
  clear ho5 hown hnew hk5
  refine hK.out (fun z => Fm z g n k A c bs) _ _ (fun _ h => h) HF5.out (fun hS => ?_)
  refine seq_take (v := ?_) rfl (by kernel_rfl) (by kernel_rfl) (by kernel_rfl) (Or.inl ⟨by rfl, fun w' hSw => ?_⟩) (by assumption) ?_
  rotate_left
  · go_simp
    with_reducible rfl
  simp only [Act.put, List.setIfInBounds_toArray, List.set_cons_zero, List.set_cons_succ]
  refine seq_done (by kernel_rfl) ?_
  all_goals skip
  go_wp2_with fail
  go_ret
  exact H5.out

set_option maxHeartbeats 4000000 in
theorem bsure_any (w : World) :
    Calls Tryd.prog 9 #[] w fun e w' => e = .returned (.bool true) ∧ Keeps [] w w' := by
  have ea : (⟨#[97]⟩ : ByteArray) = strB [97] := rfl
  have HE := Lib.hid ea
  clear ea
  go_enter Tryd.func9, Tryd.ntmps9
  go_wp2_with fail
  refine (bnew_any 8 1 w (by decide) (by decide)).mono ?_
  rintro e w1 ⟨g, A, rfl, hf, hg, hA, hk1⟩
  have H1 := Lib.hid (show Fm w1 g 8 1 A 1 [0] ∧ Keeps [] w w1 from ⟨hf, hk1⟩)
  have HA := Lib.hid hA
  clear hf hg hA hk1
  go_wp2_with fail
  rw [HE.out]
  refine (may_any g 8 1 A 1 [0] [97] w1 H1.out.1 (by decide) (by decide) (by decide) (by decide)).mono ?_
  rintro e w2 ⟨rfl, hk2⟩
  rw [a_bits, a_not]
  have H2 := Lib.hid (show Fm w2 g 8 1 A 1 [0] ∧ Keeps [] w w2 from ⟨H1.out.1.keeps0 hk2, H1.out.2.trans hk2 (by simp)⟩)
  clear hk2 H1
  go_wp2_with fail
  rw [HE.out]
  refine (add_any g 8 1 A 1 [0] [97] w2 H2.out.1 (by decide) (by decide) (by decide) (by decide)).mono ?_
  rintro e w3 ⟨rfl, hf3, hk3⟩
  rw [a_bits, a_or] at hf3
  have H3 := Lib.hid (show Fm w3 g 8 1 A 1 [4] ∧ Keeps [] w w3 from ⟨hf3, H2.out.2.fresh hk3 HA.out⟩)
  clear hf3 hk3 H2
  go_wp2_with fail
  refine (full_any g 8 1 A 1 [4] w3 H3.out.1 (by decide)).mono ?_
  rintro e w4 ⟨rfl, rfl⟩
  rw [a_full]
  go_wp2_with fail
  rw [HE.out]
  refine (may_any g 8 1 A 1 [4] [97] w3 H3.out.1 (by decide) (by decide) (by decide) (by decide)).mono ?_
  rintro e w5 ⟨rfl, hk5⟩
  rw [a_bits, a_may]
  have H5 := Lib.hid (H3.out.2.trans hk5 (by simp))
  clear hk5
  go_wp2_with fail
  go_ret
  exact ⟨rfl, H5.out⟩
end Go.Proofs.YthppbefemfkccaaDoor
namespace Go.Proofs.YthppbefemfkccaaDoor
open Go.RowKit
attribute [local irreducible] bitsK orAll

theorem bnd_inv {most : Nat} {above left : Int} {l : List UInt8} (ha : above ≠ 0) (h : (bnd most above left l).2.1 = 0) : l = uintB (bnd most above left l).2.2 ++ (bnd most above left l).1 := by
  obtain ⟨⟨n, k, er⟩, hnb⟩ : ∃ r, r = numB l := ⟨_, rfl⟩
  unfold bnd at h ⊢
  rw [← hnb] at h ⊢
  split at h
  · rename_i h1; exact absurd h h1
  · rename_i h1
    rw [if_neg h1]
    split at h
    · exact absurd h ha
    · rename_i h2
      rw [if_neg h2]
      split at h
      · rename_i h3; exact absurd h h3.2
      · rename_i h3
        rw [if_neg h3]
        have he : er = 0 := by simpa using h1
        rw [he] at hnb
        exact numB_inv hnb.symm
theorem uintR_inv {most : Nat} {l : List UInt8} {e : Int} (h : (uintR most l e).2.1 = 0) : e = 0 ∧ l = uintB (uintR most l e).2.2 ++ (uintR most l e).1 := by
  unfold uintR at h ⊢
  split at h
  · rename_i h1; exact absurd h h1
  · rename_i h1
    rw [if_neg h1]
    exact ⟨by simpa using h1, bnd_inv (by decide) h⟩
theorem bytesR_inv {most : Int} {l : List UInt8} {e : Int} (h : (bytesR most l e).2.1 = 0) : e = 0 ∧ l = lenB (bytesR most l e).2.2 ++ (bytesR most l e).1 := by
  unfold bytesR at h ⊢
  split at h
  · rename_i h1; exact absurd h h1
  · rename_i h1
    rw [if_neg h1]
    split at h
    · exact absurd h (show ¬ (1 : Int) = 0 by decide)
    · rename_i h2
      rw [if_neg h2]
      split at h
      · rename_i h3; exact absurd h h3
      · rename_i h3
        rw [if_neg h3]
        have h4 : (bnd most.toNat 2 12 l).2.1 = 0 := by simpa using h3
        have h5 := bnd_inv (by decide) h4
        have h6 := (bnd_good (by decide) (by decide) h4).1
        refine ⟨by simpa using h1, ?_⟩
        unfold lenB
        rw [List.length_take, Nat.min_eq_left h6, List.append_assoc, List.take_append_drop]
        exact h5
/-- A filter's bytes, read and told again. -/
theorem enc_dec {b : List UInt8} (h : decOk b) : encK (nK b) (kK b) (xK b) = b := by
  have h1 := h.1
  unfold decE doneR at h1
  have h2 : (decX b).2.1 = 0 ∧ (decX b).1.length = 0 := by
    split at h1
    · rename_i h3; exact absurd h1 h3
    · rename_i h3
      split at h1
      · rename_i h4; exact ⟨by simpa using h3, h4⟩
      · exact absurd h1 (by decide)
  have h3 : (decX b).1 = [] := List.eq_nil_of_length_eq_zero h2.2
  have i1 := bytesR_inv (show (bytesR (b.length : Int) (decA b).1 (decA b).2.1).2.1 = 0 from h2.1)
  have i2 := uintR_inv (show (uintR 16 (decN b).1 (decN b).2.1).2.1 = 0 from i1.1)
  have i3 := uintR_inv (show (uintR 1048576 b 0).2.1 = 0 from i2.1)
  have j1 : (decA b).1 = lenB (xK b) ++ (decX b).1 := i1.2
  have j2 : (decN b).1 = uintB (kK b) ++ (decA b).1 := i2.2
  have j3 : b = uintB (nK b) ++ (decN b).1 := i3.2
  rw [h3, List.append_nil] at j1
  rw [j1] at j2
  rw [j2] at j3
  unfold encK
  rw [List.append_assoc]
  exact j3.symm
end Go.Proofs.YthppbefemfkccaaDoor
namespace Go.Proofs.YthppbefemfkccaaDoor
open Go.RowKit
theorem wpList_appendV {P : Program} {w : World} {ops : Array Oper} {rest : List Oper} {o : Oper} {a : Act} {Q : Exit → Act → World → Prop} (hgd : o.guard = none) (s x : Operand) (t E : TypeId)
    (ho : o.op = .call { callee := .builtin .append, args := #[s, x], argTypes := #[t, t] }) (ht : P.underlying t = some (.slice E)) (z : Value) (size bytes : Nat)
    (hinfo : (P.info? E).map (fun i => (i.zero, i.size, i.bytes)) = some (some z, size, bytes)) (hzs : z.cells.size = size) (hsz : 0 < size)
    (A : Option Addr) (cv n : Nat) (xs : List Value) (hs : a.eval s = .slice A n cv) (hown : w.ownsRow 0 E size (.slice A n cv) n xs)
    (A2 : Option Addr) (m c : Nat) (news : List Value) (hx : a.eval x = .slice A2 m c) (hr : Rd w A2 m size news) (h1 : ∀ u ∈ news, u.oneCell' = true) (h63 : n + m ≤ maxLen) (hb : (n + m) * bytes ≤ 140737488355328)
    (h : ∀ A' c' w', w'.ownsRow 0 E size (.slice A' (n + m) c') (n + m) (xs ++ news) → Keeps (blk A) w w' → (∀ a, A' = some a → a.block ∈ blk A ∨ w.heap.size ≤ a.block) → wpList P ops Q rest (a.put o.dst (.slice A' (n + m) c')) w') :
    wpList P ops Q (o :: rest) a w := by
  refine wpList_plain hgd fun K hK => ?_
  obtain ⟨A', c', w', hrun, h2, h3, h4⟩ := run_append_rd (P := P) w t o.type E z size bytes ht hinfo hzs hsz A n cv xs hown A2 m c news hr h1 h63 hb
  unfold Oper.wp execOp
  simp only [ho, resolve, invoke, builtin, Sem.run_bind, Sem.run_pure, Result.andThen_ok, List.map_toArray, List.map_cons, List.map_nil, hs, hx, hrun]
  exact hK _ _ (h A' c' w' h2 h3 h4)
end Go.Proofs.YthppbefemfkccaaDoor
namespace Go.Proofs.YthppbefemfkccaaDoor
open Go.RowKit
attribute [local irreducible] bitsK orAll

theorem infoBo : (Tryd.prog.info? 4).map (fun i => (i.zero, i.size, i.bytes)) = some (some (.bool false), 1, 1) := by kernel_rfl
theorem make_bools (w : World) (m : Nat) (hm : m ≤ 1048576) : (Instr.makeSlice 29 (.int .i64 (m : Int)) (.int .i64 (m : Int))).run Tryd.prog w = .ok (.slice (some ⟨w.heap.size, 0, none⟩) m m) (w.alloc (.cells (List.replicate m (.bool false)).toArray 4)) := by
  obtain ⟨i, hi, hz0, hz1, hz2⟩ := info_parts infoBo
  have := run_make (P := Tryd.prog) w 29 4 i (.bool false) Tryd.underlying29 hi hz0 .i64 .i64 m m (by omega) (Int.le_refl _) (by rw [hz2]; omega) (by omega)
  rw [this, hz1, Int.toNat_natCast, made_is _ rfl]
/-- The document's filter begun. -/
def RNewP (n k : Nat) (w : World) (e : Ending) (w' : World) : Prop :=
  ∃ g, e = .returned (.tuple #[.agg #[.int .i64 (k : Int), .slice (some ⟨g, 0, none⟩) n n], .int .i64 0]) ∧ w.heap.size ≤ g ∧ w'.heap[g]? = some (.cells (List.replicate n (.bool false)).toArray 4 (0, 0)) ∧ Keeps [] w w'
theorem info_rf : (Tryd.prog.info? 31).map (·.size) = some 2 := by kernel_rfl
theorem results_cell_tmp2 {P : Program} {fn : Func} {p q : Tmp} {ty : TypeId} (h : fn.results = #[.cell p ty, .tmp q]) (tmps : Array Value) (w : World) (g : Nat) (t : TypeId) (cs : Array Value) (fr : Nat × Nat) (d : TypeDesc) (v : Value)
    (hp : tmps.getD p undef = .pointer (some ⟨g, 0, none⟩)) (hq : tmps.getD q undef = v) (hg : w.heap[g]? = some (.cells cs t fr))
    (hu : P.underlying ty = some d) (hd : (match d with | .struct _ | .array _ _ => true | _ => false) = true) (hi : (P.info? ty).map (·.size) = some cs.size) :
    (results fn tmps).run P w = .ok (.tuple #[.agg cs, v]) w := by
  have hp' : tmps[p]?.getD undef = .pointer (some ⟨g, 0, none⟩) := by simpa using hp
  have hq' : tmps[q]?.getD undef = v := by simpa using hq
  simp [results, h, hp', hq', asAddr, run_loadVar_row w g t ty cs fr d hg hu hd hi]
set_option maxRecDepth 100000 in
set_option maxHeartbeats 2000000 in
theorem rnew_any (n k : Nat) (w : World) (hn : 1 ≤ n ∧ n ≤ 1048576) (hk : 1 ≤ k ∧ k ≤ 16) :
    Calls Tryd.prog 7 #[.int .i64 n, .int .i64 k] w (RNewP n k w) := by
  have hms := make_bools (w.alloc (.cells #[.int .i64 0, .slice none 0 0] 31)) n (by omega)
  obtain ⟨hn1, hn2⟩ := hn
  obtain ⟨hk1, hk2⟩ := hk
  have c1 : ¬ ((n : Int) < 1) := by omega
  have c2 : ¬ (1048576 < (n : Int)) := by omega
  have c3 : ¬ ((k : Int) < 1) := by omega
  have c4 : ¬ (16 < (k : Int)) := by omega
  obtain ⟨W, hW⟩ : ∃ W, W = (w.alloc (.cells #[.int .i64 0, .slice none 0 0] 31)).alloc (.cells (List.replicate n (.bool false)).toArray 4) := ⟨_, rfl⟩
  rw [← hW] at hms
  have HW := Lib.hid (show W.heap[w.heap.size]? = some (.cells #[.int .i64 0, .slice none 0 0] 31 (0, 0)) ∧ W.heap[w.heap.size + 1]? = some (.cells (List.replicate n (.bool false)).toArray 4 (0, 0)) ∧ Keeps [] w W from by
    rw [hW]; exact ⟨heap_alloc2_old _ _ _, heap_alloc2_new _ _ _, ((Keeps.refl [] w).alloc _).alloc _⟩)
  have q0 : W.cell? ⟨w.heap.size, 0, none⟩ = some (.int .i64 0) := by rw [cell_of_row _ _ _ _ _ _ HW.out.1]; rfl
  have q1 : W.cell? ⟨w.heap.size, 1, none⟩ = some (.slice none 0 0) := by rw [cell_of_row _ _ _ _ _ _ HW.out.1]; rfl
  have f0 : ∀ i, W.frozen? ⟨w.heap.size, i, none⟩ = false := fun i => frozen_of_row W _ i _ _ HW.out.1
  clear hn1 hn2 hk1 hk2 hW
  go_enter Tryd.func7, Tryd.ntmps7
  go_wp2_with fail
  have h4' : ((W.setCell ⟨w.heap.size, 0, none⟩ (.int .i64 (k : Int))).setCell ⟨w.heap.size, 1, none⟩ (.slice (some ⟨w.heap.size + 1, 0, none⟩) n n)).heap[w.heap.size]? = some (.cells #[.int .i64 (k : Int), .slice (some ⟨w.heap.size + 1, 0, none⟩) n n] 31 (0, 0)) := by
    rw [heap_setCell_same _ w.heap.size 1 _ _ _ (heap_setCell_same W w.heap.size 0 _ _ _ HW.out.1)]
    rfl
  have hk4 : Keeps [w.heap.size] W ((W.setCell ⟨w.heap.size, 0, none⟩ (.int .i64 (k : Int))).setCell ⟨w.heap.size, 1, none⟩ (.slice (some ⟨w.heap.size + 1, 0, none⟩) n n)) := ((Keeps.refl _ W).setCell (p := ⟨w.heap.size, 0, none⟩) (.inl (by simp)) _).setCell (p := ⟨w.heap.size, 1, none⟩) (.inl (by simp)) _
  refine bodyPost_ret (v := .tuple #[.agg #[.int .i64 (k : Int), .slice (some ⟨w.heap.size + 1, 0, none⟩) n n], .int .i64 0]) (results_cell_tmp2 Tryd.results7 _ _ w.heap.size 31 _ (0, 0) _ _ rfl rfl h4' Tryd.underlying31 rfl info_rf) rfl ?_
  exact ⟨w.heap.size + 1, rfl, by omega, (hk4.block _ (lt_of_block HW.out.2.1) (by simp)).trans HW.out.2.1, HW.out.2.2.trans hk4 (fun t ht => .inr (by simp at ht; omega))⟩
set_option maxHeartbeats 2000000 in
theorem rnew_no (x y : Int) (w : World) (h : ¬ FitB x y) :
    Calls Tryd.prog 7 #[.int .i64 x, .int .i64 y] w fun e w' => e = .returned (.tuple #[.agg #[.int .i64 0, .slice none 0 0], .int .i64 1]) ∧ Keeps [] w w' := by
  have HW := Lib.hid (show (w.alloc (.cells #[.int .i64 0, .slice none 0 0] 31)).heap[w.heap.size]? = some (.cells #[.int .i64 0, .slice none 0 0] 31 (0, 0)) from heap_alloc_new _ _)
  rcases noFit_four h with h1 | ⟨h1, h2⟩ | ⟨h1, h2, h3⟩ | ⟨h1, h2, h3, h4⟩
  all_goals
    clear h
    go_enter Tryd.func7, Tryd.ntmps7
    go_wp2_with fail
    refine bodyPost_ret (v := .tuple #[.agg #[.int .i64 0, .slice none 0 0], .int .i64 1]) (results_cell_tmp2 Tryd.results7 _ _ w.heap.size 31 _ (0, 0) _ _ rfl rfl HW.out Tryd.underlying31 rfl info_rf) rfl ?_
    exact ⟨rfl, (Keeps.refl [] w).alloc _⟩
end Go.Proofs.YthppbefemfkccaaDoor
namespace Go.Proofs.YthppbefemfkccaaDoor
open Go.RowKit

theorem pkpower_any (n : Nat) (w : World) (hn : n ≤ 63) : Calls Tryd.prog 64 #[.int .i64 n] w fun e w' => e = .returned (.int .u64 ((2 ^ n : Nat) : Int)) ∧ w = w' := by
  go_enter Tryd.func64, Tryd.ntmps64
  go_wp2_with fail
  go_loop [3, 4] (fun p i => ∃ j : Nat, j ≤ n ∧ i = .int .i64 j ∧ p = .int .u64 ((2 ^ j : Nat) : Int)) (fun _ i => n - (intOf i).toNat)
  case atStart => exact ⟨0, Nat.zero_le _, rfl, rfl⟩
  case round =>
    obtain ⟨j, hj, rfl, rfl⟩ := hrel
    by_cases hlt : j < n
    · have hp : (2 : Nat) ^ j ≤ 2 ^ 62 := Nat.pow_le_pow_right (by omega) (by omega)
      obtain ⟨P, hP⟩ : ∃ P, P = (2 : Nat) ^ j := ⟨_, rfl⟩
      rw [← hP] at hp ⊢
      have hp2 : (P : Int) ≤ 4611686018427387904 := by omega
      have HP := Lib.hid (show P * 2 = 2 ^ (j + 1) by rw [hP, Nat.pow_succ])
      clear hP hp
      go_wp2_with fail
      go_round
      case rel => exact ⟨j + 1, by omega, by go_num, by rw [← HP.out, Int.natCast_mul, Int.mul_comm]; rfl⟩
      case measure => simp [intOf]; omega
    · obtain rfl : j = n := by omega
      go_wp2_with fail
      go_ret
      exact ⟨rfl, rfl⟩

theorem pkmore_any (n : Nat) (w : World) : Calls Tryd.prog 56 #[.int .u64 n] w fun e w' => e = .returned (.int .i64 (bh n : Nat)) ∧ w = w' := by
  go_enter Tryd.func56, Tryd.ntmps56
  go_wp2_with fail
  go_loop [3] (fun i => ∃ k : Nat, k ≤ 8 ∧ i = .int .i64 k ∧ Hid (0 < k → 2 ^ (7 * k) ≤ n)) (fun i => 8 - (intOf i).toNat)
  case atStart => exact ⟨0, by omega, rfl, fun h => absurd h (by omega)⟩
  case round =>
    obtain ⟨k, hk, rfl, hH⟩ := hrel
    by_cases hlt : k < 8
    · have hk3 : (k : Int) ≤ 7 := by omega
      go_wp2_with fail
      have := pkpower_any (7 * k + 7) w (by omega)
      rw [show ((7 * k + 7 : Nat) : Int) = 7 * (k : Int) + 7 by omega] at this
      refine this.mono ?_
      rintro e w' ⟨rfl, rfl⟩
      obtain ⟨P, hP⟩ : ∃ P, P = (2 : Nat) ^ (7 * k + 7) := ⟨_, rfl⟩
      rw [← hP]
      have HP := Lib.hid hP
      clear hP this
      by_cases hnp : n < P
      · have hnp' : (n : Int) < (P : Int) := by omega
        have HN := Lib.hid hnp
        clear hnp
        go_wp2_with fail
        go_ret
        exact ⟨ret_int (by rw [bh_unique (n := n) (k := k) (by omega) (fun _ => by rw [← HP.out]; exact HN.out) hH.out]), rfl⟩
      · have hnp' : ¬ (n : Int) < (P : Int) := by omega
        have HN := Lib.hid hnp
        clear hnp
        go_wp2_with fail
        go_round
        case rel => exact ⟨k + 1, by omega, by go_num, fun _ => by have := HN.out; rw [HP.out] at this; rw [show 7 * (k + 1) = 7 * k + 7 by omega]; omega⟩
        case measure => simp [intOf]; omega
    · obtain rfl : k = 8 := by omega
      go_wp2_with fail
      go_ret
      exact ⟨ret_int (by rw [bh_unique (n := n) (k := 8) (by omega) (fun h => absurd h (by omega)) hH.out]; rfl), rfl⟩

theorem pkones_any (k : Nat) (w : World) (hk : k ≤ 8) : Calls Tryd.prog 58 #[.int .i64 k] w fun e w' => e = .returned (.int .u8 ((256 - 2 ^ (8 - k) : Nat) : Int)) ∧ w = w' := by
  go_enter Tryd.func58, Tryd.ntmps58
  go_wp2_with fail
  have := pkpower_any (8 - k) w (by omega)
  rw [show ((8 - k : Nat) : Int) = 8 - (k : Int) by omega] at this
  refine this.mono ?_
  rintro e w' ⟨rfl, rfl⟩
  have h1 : (1 : Nat) ≤ 2 ^ (8 - k) := Nat.one_le_two_pow
  have h2 : (2 : Nat) ^ (8 - k) ≤ 2 ^ 8 := Nat.pow_le_pow_right (by omega) (by omega)
  obtain ⟨P, hP⟩ : ∃ P, P = (2 : Nat) ^ (8 - k) := ⟨_, rfl⟩
  rw [← hP] at h1 h2 ⊢
  have hp1 : (1 : Int) ≤ (P : Int) := by omega
  have hp2 : (P : Int) ≤ 256 := by omega
  have HP := Lib.hid hP
  clear hP this h2
  go_wp2_with fail
  go_ret
  refine ⟨ret_int ?_, rfl⟩
  rw [← HP.out]
  omega

end Go.Proofs.YthppbefemfkccaaDoor
