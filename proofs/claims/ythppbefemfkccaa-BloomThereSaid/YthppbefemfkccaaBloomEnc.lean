/- A filter as bytes, and what must come whatever the input is: contracts. -/
import Derived.Test.YthppbefemfkccaaBloomMay
namespace Go.Proofs.Ythppbefemfkccaa
open Go.RowKit
theorem a_bits : bitsK 8 1 [97] = [2] := by decide
theorem a_not : mayK [0] [2] = false := by decide
theorem a_or : orAll [0] [2] = [4] := by decide
theorem a_full : fullK [4] = 1 := by decide
theorem a_may : mayK [4] [2] = true := by decide
attribute [local irreducible] bitsK orAll

def encK (n k : Nat) (bs : List UInt8) : List UInt8 := uintB n ++ uintB k ++ lenB bs
/-- A writer of one's own beside a filter. -/
def Wf2 (w0 w : World) (g n k : Nat) (A : Option Addr) (c : Nat) (bs : List UInt8) (gw : Nat) (out : List UInt8) : Prop :=
  ∃ A2 c2 o, Hid (o = out) ∧ Wr w gw A2 c2 o ∧ Fm w g n k A c bs ∧ Keeps [] w0 w ∧ w0.heap.size ≤ gw ∧ ∀ a, A2 = some a → w0.heap.size ≤ a.block
theorem Wf2.step {w0 w w' : World} {g n k : Nat} {A : Option Addr} {c : Nat} {bs : List UInt8} {gw : Nat} {s : List UInt8} {A2 : Option Addr} (hf : Fm w g n k A c bs) (hf0 : Fm w0 g n k A c bs) (hk : Keeps [] w0 w) (hg : w0.heap.size ≤ gw)
    (hA : ∀ a, A2 = some a → w0.heap.size ≤ a.block) (hst : WrStep gw A2 s w w') : Wf2 w0 w' g n k A c bs gw s := by
  obtain ⟨A3, c3, o3, ho, hw3, hk3, hn3⟩ := hst
  have hlt := hf0.lt
  have hltA := fun a ha => hf0.2.1.lt a ha
  have hni : ∀ t ∈ gw :: blk A2, w0.heap.size ≤ t := by
    intro t ht
    rcases List.mem_cons.1 ht with rfl | ht
    · exact hg
    · obtain ⟨a, ha, rfl⟩ := mem_blk.1 ht
      exact hA a ha
  refine ⟨A3, c3, o3, ho, hw3, hf.keeps hk3 (fun hm => by have := hni _ hm; omega) (fun a ha hm => by have := hni _ hm; have := hltA a ha; omega), hk.trans hk3 (fun t ht => .inr (hni t ht)), hg, fun a ha => ?_⟩
  rcases hn3 a ha with h | h
  · obtain ⟨a1, e1, e2⟩ := mem_blk.1 h
    have := hA a1 e1
    omega
  · exact Nat.le_trans hk.size h
set_option maxHeartbeats 4000000 in
theorem enc_any (g n k : Nat) (A : Option Addr) (c : Nat) (bs : List UInt8) (w : World) (h : Fm w g n k A c bs) (hn : n ≤ 1048576) (hk : k ≤ 16) (hb : bs.length ≤ 1048576) :
    Calls Try.prog 7 #[.pointer (some ⟨g, 0, none⟩)] w (NewB 5 (encK n k bs) w) := by
  have H := Lib.hid h
  have HB := Lib.hid (And.intro (And.intro hn hk) hb)
  have qa : ∀ z : World, Fm z g n k A c bs → z.cell? ⟨g, 0, none⟩ = some (.int .i64 (n : Int)) := fun z hz => hz.cells.1
  have qb : ∀ z : World, Fm z g n k A c bs → z.cell? ⟨g, 1, none⟩ = some (.int .i64 (k : Int)) := fun z hz => hz.cells.2.1
  have qc : ∀ z : World, Fm z g n k A c bs → z.cell? ⟨g, 2, none⟩ = some (.slice A bs.length c) := fun z hz => hz.cells.2.2
  have f1 : IntKind.u64.wrap (n : Int) = (n : Int) := by rw [IntKind.wrap_u64]; omega
  have f2 : IntKind.u64.wrap (k : Int) = (k : Int) := by rw [IntKind.wrap_u64]; omega
  clear h hn hk hb
  go_enter Try.func7, Try.ntmps7
  go_wp2_with fail
  refine seq_start (by kernel_rfl) (fun z => Fm z g n k A c bs) 20 [0, 1, 2, 3, 4, 5, 6, 7, 8, 9, 10, 11, 12, 13, 14, 15, 16, 17, 18, 19] rfl (H.out) (fun hS => ?_)
  have HD := Lib.hid (show Fm w.drew g n k A c bs ∧ Keeps [] w w.drew from ⟨H.out, (Keeps.refl [] w).drew⟩)
  generalize w.drew = V at HD hS ⊢
  iterate 1 (refine seq_later ?_; simp only [List.cons_append, List.nil_append])
  refine seq_take (v := ?_) rfl (by kernel_rfl) (by kernel_rfl) (by kernel_rfl) (Or.inl ⟨by rfl, fun w' hSw => ?_⟩) (by assumption) ?_
  rotate_left
  · go_simp
    with_reducible rfl
  simp only [Act.put, List.setIfInBounds_toArray, List.set_cons_zero, List.set_cons_succ]
  refine seq_take (v := ?_) rfl (by kernel_rfl) (by kernel_rfl) (by kernel_rfl) (Or.inl ⟨by rfl, fun w' hSw => ?_⟩) (by assumption) ?_
  rotate_left
  · go_simp
    with_reducible rfl
  simp only [Act.put, List.setIfInBounds_toArray, List.set_cons_zero, List.set_cons_succ]
  refine seq_take (v := ?_) rfl (by kernel_rfl) (by kernel_rfl) (by kernel_rfl) (Or.inl ⟨by rfl, fun w' hSw => ?_⟩) (by assumption) ?_
  rotate_left
  · go_simp
    with_reducible rfl
  simp only [Act.put, List.setIfInBounds_toArray, List.set_cons_zero, List.set_cons_succ]
  refine seq_take (v := ?_) rfl (by kernel_rfl) (by kernel_rfl) (by kernel_rfl) (Or.inl ⟨by rfl, fun w' hSw => ?_⟩) (by assumption) ?_
  rotate_left
  · go_simp
    with_reducible rfl
  simp only [Act.put, List.setIfInBounds_toArray, List.set_cons_zero, List.set_cons_succ]
  refine seq_take (v := ?_) rfl (by kernel_rfl) (by kernel_rfl) (by kernel_rfl) (Or.inl ⟨by rfl, fun w' hSw => ?_⟩) (by assumption) ?_
  rotate_left
  · go_simp
    with_reducible rfl
  simp only [Act.put, List.setIfInBounds_toArray, List.set_cons_zero, List.set_cons_succ]
  iterate 1 (refine seq_later ?_; simp only [List.cons_append, List.nil_append])
  refine seq_take (v := ?_) rfl (by kernel_rfl) (by kernel_rfl) (by kernel_rfl) (Or.inl ⟨by rfl, fun w' hSw => ?_⟩) (by assumption) ?_
  rotate_left
  · go_simp
    with_reducible rfl
  simp only [Act.put, List.setIfInBounds_toArray, List.set_cons_zero, List.set_cons_succ]
  refine seq_take (v := ?_) rfl (by kernel_rfl) (by kernel_rfl) (by kernel_rfl) (Or.inl ⟨by rfl, fun w' hSw => ?_⟩) (by assumption) ?_
  rotate_left
  · go_simp
    with_reducible rfl
  simp only [Act.put, List.setIfInBounds_toArray, List.set_cons_zero, List.set_cons_succ]
  refine seq_take (v := ?_) rfl (by kernel_rfl) (by kernel_rfl) (by kernel_rfl) (Or.inl ⟨by rfl, fun w' hSw => ?_⟩) (by assumption) ?_
  rotate_left
  · go_simp
    with_reducible rfl
  simp only [Act.put, List.setIfInBounds_toArray, List.set_cons_zero, List.set_cons_succ]
  refine seq_take (v := ?_) rfl (by kernel_rfl) (by kernel_rfl) (by kernel_rfl) (Or.inl ⟨by rfl, fun w' hSw => ?_⟩) (by assumption) ?_
  rotate_left
  · go_simp
    with_reducible rfl
  simp only [Act.put, List.setIfInBounds_toArray, List.set_cons_zero, List.set_cons_succ]
  refine seq_take (v := ?_) rfl (by kernel_rfl) (by kernel_rfl) (by kernel_rfl) (Or.inl ⟨by rfl, fun w' hSw => ?_⟩) (by assumption) ?_
  rotate_left
  · go_simp
    with_reducible rfl
  simp only [Act.put, List.setIfInBounds_toArray, List.set_cons_zero, List.set_cons_succ]
  iterate 1 (refine seq_later ?_; simp only [List.cons_append, List.nil_append])
  refine seq_take (v := ?_) rfl (by kernel_rfl) (by kernel_rfl) (by kernel_rfl) (Or.inl ⟨by rfl, fun w' hSw => ?_⟩) (by assumption) ?_
  rotate_left
  · go_simp
    with_reducible rfl
  simp only [Act.put, List.setIfInBounds_toArray, List.set_cons_zero, List.set_cons_succ]
  refine seq_take (v := ?_) rfl (by kernel_rfl) (by kernel_rfl) (by kernel_rfl) (Or.inl ⟨by rfl, fun w' hSw => ?_⟩) (by assumption) ?_
  rotate_left
  · go_simp
    with_reducible rfl
  simp only [Act.put, List.setIfInBounds_toArray, List.set_cons_zero, List.set_cons_succ]
  refine seq_take (v := ?_) rfl (by kernel_rfl) (by kernel_rfl) (by kernel_rfl) (Or.inl ⟨by rfl, fun w' hSw => ?_⟩) (by assumption) ?_
  rotate_left
  · go_simp
    with_reducible rfl
  simp only [Act.put, List.setIfInBounds_toArray, List.set_cons_zero, List.set_cons_succ]
  refine seq_take (v := ?_) rfl (by kernel_rfl) (by kernel_rfl) (by kernel_rfl) (Or.inl ⟨by rfl, fun w' hSw => ?_⟩) (by assumption) ?_
  rotate_left
  · go_simp
    with_reducible rfl
  simp only [Act.put, List.setIfInBounds_toArray, List.set_cons_zero, List.set_cons_succ]
  iterate 3 (refine seq_later ?_; simp only [List.cons_append, List.nil_append])
  refine seq_do rfl (by kernel_rfl) (by rfl) (fun K hK => ?_)
  go_simp
  refine (new_any V).mono ?_
  rintro e w1 ⟨rfl, hw1, hk1⟩
  have H1 := Lib.hid (show Fm w1 g n k A c bs ∧ Keeps [] w w1 ∧ w.heap.size ≤ V.heap.size ∧ Wr w1 V.heap.size none 0 [] from ⟨HD.out.1.keeps0 hk1, HD.out.2.trans hk1 (by simp), HD.out.2.size, hw1⟩)
  clear hw1 hk1
  obtain ⟨gw, hgw⟩ : ∃ gw, gw = V.heap.size := ⟨_, rfl⟩
  rw [← hgw] at H1 ⊢
  clear hgw
  refine hK.out (fun z => Fm z g n k A c bs) _ _ (fun _ h => h) H1.out.1 (fun hS => ?_)
  refine seq_do rfl (by kernel_rfl) (by rfl) (fun K hK => ?_)
  go_simp
  refine (uint_any n gw none 0 [] w1 (by have := HB.out.1.1; omega) H1.out.2.2.2 (by simp)).mono ?_
  intro e w2 hp
  obtain ⟨rfl, hst⟩ := hp.step
  have h2 := Wf2.step H1.out.1 H.out H1.out.2.1 H1.out.2.2.1 (by simp) hst
  obtain ⟨A2, c2, o2, ho2, hw2⟩ := h2
  have H2 := Lib.hid hw2
  clear hw2 hst hp
  refine hK.out (fun z => Fm z g n k A c bs) _ _ (fun _ h => h) H2.out.2.1 (fun hS => ?_)
  refine seq_do rfl (by kernel_rfl) (by rfl) (fun K hK => ?_)
  go_simp
  refine (uint_any k gw A2 c2 o2 w2 (by have := HB.out.1.2; omega) H2.out.1 (by rw [ho2.out]; have := length_uintB_le n; simp at this ⊢; omega)).mono ?_
  intro e w3 hp
  obtain ⟨rfl, hst⟩ := hp.step
  have h3 := Wf2.step H2.out.2.1 H.out H2.out.2.2.1 H2.out.2.2.2.1 H2.out.2.2.2.2 hst
  obtain ⟨A3, c3, o3, ho3, hw3⟩ := h3
  have HO3 := Lib.hid (show o3 = uintB n ++ uintB k by rw [ho3.out, ho2.out]; rfl)
  have H3 := Lib.hid hw3
  clear hw3 hst hp ho3
  refine hK.out (fun z => Fm z g n k A c bs) _ _ (fun _ h => h) H3.out.2.1 (fun hS => ?_)
  refine seq_do rfl (by kernel_rfl) (by rfl) (fun K hK => ?_)
  go_simp
  refine (bytes_any gw A3 c3 o3 A bs c w3 H3.out.1 H3.out.2.1.2.1.rd (fun a ha _ => by
      have h1 := H.out.2.1.lt a ha
      refine ⟨by have := H3.out.2.2.2.1; omega, fun hm => ?_⟩
      obtain ⟨a1, e1, e2⟩ := mem_blk.1 hm
      have := H3.out.2.2.2.2 a1 e1
      omega) (by rw [HO3.out]; have h1 := length_uintB_le n; have h2 := length_uintB_le k; have := HB.out.2; rw [List.length_append]; omega)).mono ?_
  intro e w4 hp
  obtain ⟨rfl, hst⟩ := hp.step
  have h4 := Wf2.step H3.out.2.1 H.out H3.out.2.2.1 H3.out.2.2.2.1 H3.out.2.2.2.2 hst
  obtain ⟨A4, c4, o4, ho4, hw4⟩ := h4
  have HO4 := Lib.hid (show o4 = encK n k bs by rw [ho4.out, HO3.out]; rfl)
  have H4 := Lib.hid hw4
  clear hw4 hst hp ho4
  refine hK.out (fun z => Fm z g n k A c bs) _ _ (fun _ h => h) H4.out.2.1 (fun hS => ?_)
  refine seq_do rfl (by kernel_rfl) (by rfl) (fun K hK => ?_)
  go_simp
  refine (done_any gw A4 c4 o4 w4 H4.out.1 (by
      rw [HO4.out]; unfold encK lenB; have h1 := length_uintB_le n; have h2 := length_uintB_le k; have h3 := length_uintB_le bs.length; have := HB.out.2
      rw [List.length_append, List.length_append, List.length_append]; omega)).mono ?_
  rintro e w5 ⟨A5, c5, o5, ho5, rfl, hown, hnew, hk5⟩
  have H5 := Lib.hid (show NewB 5 (encK n k bs) w (.returned (.slice A5 o5.length c5)) w5 from ⟨A5, c5, o5, by show _ = _; rw [ho5.out, HO4.out], rfl, hown, fun a ha => Nat.le_trans H4.out.2.2.1.size (hnew a ha), H4.out.2.2.1.trans hk5 (by simp)⟩)
  have HF5 := Lib.hid (H4.out.2.1.keeps0 hk5)
  clear ho5 hown hnew hk5
  refine hK.out (fun z => Fm z g n k A c bs) _ _ (fun _ h => h) HF5.out (fun hS => ?_)
  refine seq_take (v := ?_) rfl (by kernel_rfl) (by kernel_rfl) (by kernel_rfl) (Or.inl ⟨by rfl, fun w' hSw => ?_⟩) (by assumption) ?_
  rotate_left
  · go_simp
    with_reducible rfl
  simp only [Act.put, List.setIfInBounds_toArray, List.set_cons_zero, List.set_cons_succ]
  refine seq_done (by kernel_rfl) ?_
  all_goals skip
  go_wp2_with fail
  go_ret
  exact H5.out

set_option maxHeartbeats 4000000 in
theorem bsure_any (w : World) :
    Calls Try.prog 8 #[] w fun e w' => e = .returned (.bool true) ∧ Keeps [] w w' := by
  have ea : (⟨#[97]⟩ : ByteArray) = strB [97] := rfl
  have HE := Lib.hid ea
  clear ea
  go_enter Try.func8, Try.ntmps8
  go_wp2_with fail
  refine (bnew_any 8 1 w (by decide) (by decide)).mono ?_
  rintro e w1 ⟨g, A, rfl, hf, hg, hA, hk1⟩
  have H1 := Lib.hid (show Fm w1 g 8 1 A 1 [0] ∧ Keeps [] w w1 from ⟨hf, hk1⟩)
  have HA := Lib.hid hA
  clear hf hg hA hk1
  go_wp2_with fail
  rw [HE.out]
  refine (may_any g 8 1 A 1 [0] [97] w1 H1.out.1 (by decide) (by decide) (by decide) (by decide)).mono ?_
  rintro e w2 ⟨rfl, hk2⟩
  rw [a_bits, a_not]
  have H2 := Lib.hid (show Fm w2 g 8 1 A 1 [0] ∧ Keeps [] w w2 from ⟨H1.out.1.keeps0 hk2, H1.out.2.trans hk2 (by simp)⟩)
  clear hk2 H1
  go_wp2_with fail
  rw [HE.out]
  refine (add_any g 8 1 A 1 [0] [97] w2 H2.out.1 (by decide) (by decide) (by decide) (by decide)).mono ?_
  rintro e w3 ⟨rfl, hf3, hk3⟩
  rw [a_bits, a_or] at hf3
  have H3 := Lib.hid (show Fm w3 g 8 1 A 1 [4] ∧ Keeps [] w w3 from ⟨hf3, H2.out.2.fresh hk3 HA.out⟩)
  clear hf3 hk3 H2
  go_wp2_with fail
  refine (full_any g 8 1 A 1 [4] w3 H3.out.1 (by decide)).mono ?_
  rintro e w4 ⟨rfl, rfl⟩
  rw [a_full]
  go_wp2_with fail
  rw [HE.out]
  refine (may_any g 8 1 A 1 [4] [97] w3 H3.out.1 (by decide) (by decide) (by decide) (by decide)).mono ?_
  rintro e w5 ⟨rfl, hk5⟩
  rw [a_bits, a_may]
  have H5 := Lib.hid (H3.out.2.trans hk5 (by simp))
  clear hk5
  go_wp2_with fail
  go_ret
  exact ⟨rfl, H5.out⟩
end Go.Proofs.Ythppbefemfkccaa
