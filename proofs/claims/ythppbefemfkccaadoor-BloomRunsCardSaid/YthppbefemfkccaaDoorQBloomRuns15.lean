/- The law on whatever keys are laid in: called with any size, any keys and any bytes it answers true. -/
import Derived.Test.YthppbefemfkccaaDoorQBloomRuns12
import Derived.Test.YthppbefemfkccaaDoorQBloomRuns13
import Derived.Test.YthppbefemfkccaaDoorQBloomRuns14
import Derived.Deep.DeepCutAuto
namespace Go.Proofs.YthppbefemfkccaaDoor
open Go.RowKit
attribute [local irreducible] bitsK orAll encK fullK mayK

/-- The filter y, the document's x in block gr. -/
def RunS (w W : World) (g n k : Nat) (A1 : Option Addr) (m gr : Nat) (y x : List UInt8) (A : Option Addr) (c : Nat) : Prop :=
  Fm W g n k A1 m y ∧ W.heap[gr]? = some (.cells #[.int .i64 (k : Int), .slice A n c] 31 (0, 0)) ∧ Rd W A n 1 (bitsL n x) ∧ Keeps [] w W
theorem RunS.keeps0 {w W W' : World} {g n k : Nat} {A1 : Option Addr} {m gr : Nat} {y x : List UInt8} {A : Option Addr} {c : Nat} (h : RunS w W g n k A1 m gr y x A c) (hk : Keeps [] W W') : RunS w W' g n k A1 m gr y x A c :=
  ⟨h.1.keeps0 hk, (hk.block gr (lt_of_block h.2.1) (by simp)).trans h.2.1, h.2.2.1.keeps0 hk, h.2.2.2.trans hk (by simp)⟩
theorem RunS.c0 {w W : World} {g n k : Nat} {A1 : Option Addr} {m gr : Nat} {y x : List UInt8} {A : Option Addr} {c : Nat} (h : RunS w W g n k A1 m gr y x A c) : W.cell? ⟨gr, 0, none⟩ = some (.int .i64 (k : Int)) := by rw [cell_of_row _ _ _ _ _ _ h.2.1]; rfl
theorem RunS.c1 {w W : World} {g n k : Nat} {A1 : Option Addr} {m gr : Nat} {y x : List UInt8} {A : Option Addr} {c : Nat} (h : RunS w W g n k A1 m gr y x A c) : W.cell? ⟨gr, 1, none⟩ = some (.slice A n c) := by rw [cell_of_row _ _ _ _ _ _ h.2.1]; rfl
theorem RunS.added {w W W' : World} {g n k : Nat} {A1 : Option Addr} {m gr : Nat} {y y' x : List UInt8} {A : Option Addr} {c : Nat} (h : RunS w W g n k A1 m gr y x A c) (hf : Fm W' g n k A1 m y') (hk : Keeps (blk A1) W W')
    (h0 : ∀ a, A1 = some a → w.heap.size ≤ a.block) (hgr : gr ∉ blk A1) (hA : ∀ a, A = some a → a.block ∉ blk A1) : RunS w W' g n k A1 m gr y' x A c :=
  ⟨hf, (hk.block gr (lt_of_block h.2.1) hgr).trans h.2.1, h.2.2.1.keeps hk (fun a ha _ => hA a ha), h.2.2.2.fresh hk h0⟩
theorem keeps_two (W : World) (gr : Nat) (u v : Value) : Keeps [gr] W ((W.setCell ⟨gr, 0, none⟩ u).setCell ⟨gr, 1, none⟩ v) :=
  ((Keeps.refl _ W).setCell (p := ⟨gr, 0, none⟩) (.inl (by simp)) _).setCell (p := ⟨gr, 1, none⟩) (.inl (by simp)) _
theorem RunS.stored {w W : World} {g n k : Nat} {A1 : Option Addr} {m gr : Nat} {y x x' : List UInt8} {A A' : Option Addr} {c c' : Nat} (h : RunS w W g n k A1 m gr y x A c) (hg : g ≠ gr) (h1 : ∀ a, A1 = some a → a.block ≠ gr) (h0 : w.heap.size ≤ gr)
    (hr : Rd W A' n 1 (bitsL n x')) (hA : ∀ a, A' = some a → a.block ≠ gr) : RunS w ((W.setCell ⟨gr, 0, none⟩ (.int .i64 (k : Int))).setCell ⟨gr, 1, none⟩ (.slice A' n c')) g n k A1 m gr y x' A' c' := by
  have hk := keeps_two W gr (.int .i64 (k : Int)) (.slice A' n c')
  refine ⟨h.1.keeps hk (by simpa using hg) (fun a ha => by simpa using h1 a ha), ?_, hr.keeps hk (fun a ha _ => by simpa using hA a ha), h.2.2.2.trans hk (fun t ht => .inr (by simp at ht; omega))⟩
  rw [heap_setCell_same _ gr 1 _ _ _ (heap_setCell_same W gr 0 _ _ _ h.2.1)]
  rfl
theorem or_spare {n k m : Nat} {s x : List UInt8} (hn : 1 ≤ n) (hx : x.length = m) (_ : n ≤ 8 * m) (h : ∀ t, n ≤ t → t < 8 * m → hasBit x t = false) : ∀ t, n ≤ t → t < 8 * m → hasBit (orAll x (bitsK n k s)) t = false := by
  intro t h1 h2
  rw [hasBit_all _ _ _ (fun j hj => by have := bitsK_lt (by omega) hj; omega), h t h1 h2]
  have : ¬ t ∈ bitsK n k s := fun hj => by have := bitsK_lt (by omega) hj; omega
  simp [this]
theorem bits_zero (n m : Nat) : List.replicate n (Value.bool false) = bitsL n (List.replicate m 0) := by
  refine List.ext_getElem? fun t => ?_
  by_cases h : t < n
  · rw [bitsL_get n _ t h, List.getElem?_replicate, if_pos h]
    congr 2
    unfold hasBit
    rw [List.getD_eq_getElem?_getD, List.getElem?_replicate]
    split <;> simp
  · rw [List.getElem?_eq_none (by simp; omega), List.getElem?_eq_none (by rw [bitsL_len]; omega)]
theorem zero_spare (m t : Nat) : hasBit (List.replicate m 0) t = false := by
  unfold hasBit
  rw [List.getD_eq_getElem?_getD, List.getElem?_replicate]
  split <;> simp
theorem rd_row {w : World} {g n : Nat} {T : TypeId} {xs : List Value} {fr : Nat × Nat} (h : w.heap[g]? = some (.cells xs.toArray T fr)) (hn : xs.length = n) : Rd w (some ⟨g, 0, none⟩) n 1 xs :=
  ⟨by simp [hn], fun _ => ⟨_, rfl, fun j u hu => by rw [add_new, Nat.zero_add, cell_of_row _ _ _ _ _ _ h, List.getElem?_toArray]; exact hu⟩⟩

set_option maxRecDepth 100000 in
set_option maxHeartbeats 40000000 in
theorem runs_any (x y : Int) (KA : Option Addr) (kc : Nat) (xs : List ByteArray) (BA : Option Addr) (b : List UInt8) (bc : Nat) (w : World) (ht : HT w) (hok : (K.slice 16 K.str).ok w ((KA, kc), xs)) (hl : b.length ≤ 140737488351232) (hc : b.length ≤ bc) (hr : RdB w BA b) (hA : ∀ a, BA = some a → 0 < b.length → a.block < w.heap.size) :
    Calls Tryd.prog 4 #[.agg #[.int .i64 x, .int .i64 y], .slice KA xs.length kc, .slice BA b.length bc] w fun e w' => e = .returned (.bool true) ∧ Keeps [] w w' := by
  have HTT := Lib.hid ht
  have H0 := Lib.hid (And.intro (And.intro hl hc) (And.intro hr hA))
  have HRD := Lib.hid (show Rd w KA xs.length 1 (xs.flatMap K.str.cells) from hok.2.2.1)
  have HSZ := Lib.hid (show ∀ s ∈ xs, s.size ≤ 140737488351232 from fun s hs => hok.2.2.2 s hs)
  have HLN := Lib.hid (show xs.length ≤ 140737488351232 by have h1 : xs.length * 16 ≤ 140737488351232 := hok.2.1; omega)
  clear ht hl hc hr hA hok
  by_cases hfit : FitB x y
  · obtain ⟨n, rfl⟩ : ∃ n : Nat, x = (n : Int) := ⟨x.toNat, by unfold FitB at hfit; omega⟩
    obtain ⟨k, rfl⟩ : ∃ k : Nat, y = (k : Int) := ⟨y.toNat, by unfold FitB at hfit; omega⟩
    have HNK := Lib.hid (show (1 ≤ n ∧ n ≤ 1048576) ∧ (1 ≤ k ∧ k ≤ 16) from by unfold FitB at hfit; omega)
    clear hfit
    go_enter Tryd.func4, Tryd.ntmps4
    go_wp2_with fail
    refine (bnew_any n k _ HNK.out.1 HNK.out.2).mono ?_
    rintro e w1 ⟨g, A1, rfl, hf1, hg1, hA1, hk1⟩
    obtain ⟨m, hm⟩ : ∃ m, m = (n + 7) / 8 := ⟨_, rfl⟩
    rw [← hm] at hf1
    obtain ⟨z, hz⟩ : ∃ z : List UInt8, z = List.replicate m 0 := ⟨_, rfl⟩
    rw [← hz] at hf1
    have HM := Lib.hid hm
    have HZ := Lib.hid hz
    have c0 : w1.cell? ⟨w.heap.size, 0, none⟩ = some (.int .i64 (n : Int)) := hk1.cell (by simp) (by simp)
    have c1 : w1.cell? ⟨w.heap.size, 1, none⟩ = some (.int .i64 (k : Int)) := hk1.cell (by simp) (by simp)
    have H1 := Lib.hid (show Fm w1 g n k A1 m z ∧ Keeps [] w w1 ∧ w.heap.size ≤ g ∧ ∀ a, A1 = some a → w.heap.size ≤ a.block from ⟨hf1, ((Keeps.refl [] w).alloc _).trans hk1 (by simp), by simp at hg1; omega, fun a ha => by have := hA1 a ha; simp at this; omega⟩)
    clear hf1 hg1 hA1 hk1 hm hz
    go_wp2_with fail
    refine (rnew_any n k _ HNK.out.1 HNK.out.2).mono ?_
    rintro e w2 ⟨gb, rfl, hgb, hrow, hk2⟩
    have H2 := Lib.hid (show Fm w2 g n k A1 m z ∧ Keeps [] w w2 ∧ w2.heap[gb]? = some (.cells (bitsL n z).toArray 4 (0, 0)) from ⟨H1.out.1.keeps0 hk2, H1.out.2.1.trans hk2 (by simp), by rw [HZ.out, ← bits_zero]; exact hrow⟩)
    obtain ⟨gr, hgr⟩ : ∃ gr, gr = w2.heap.size := ⟨_, rfl⟩
    have HG := Lib.hid hgr
    have HAP := Lib.hid (show w.heap.size ≤ gr ∧ g ≠ gr ∧ (∀ a, A1 = some a → w.heap.size ≤ a.block ∧ a.block < gr ∧ a.block ≠ gb) ∧ gb ≠ gr from by
      have h1 := H2.out.1.lt
      have h2 := H2.out.2.1.size
      have h3 := lt_of_block hrow
      exact ⟨by omega, by omega, fun a ha => ⟨H1.out.2.2.2 a ha, by have := H2.out.1.2.1.lt a ha; omega, by have := H1.out.1.2.1.lt a ha; omega⟩, by omega⟩)
    clear hgb hrow hk2 H1 c0 c1 hgr
    have HS3 := Lib.hid (show RunS w (w2.alloc (.cells #[.int .i64 (k : Int), .slice (some ⟨gb, 0, none⟩) n n] 31)) g n k A1 m gr z z (some ⟨gb, 0, none⟩) n from by
      have hka := (Keeps.refl [] w2).alloc (.cells #[.int .i64 (k : Int), .slice (some ⟨gb, 0, none⟩) n n] 31)
      exact ⟨H2.out.1.keeps0 hka, by rw [HG.out]; exact heap_alloc_new _ _, (rd_row H2.out.2.2 (bitsL_len _ _)).keeps0 hka, H2.out.2.1.trans hka (by simp)⟩)
    clear H2
    go_wp2_with fail
    rw [← HG.out]
    generalize w2.alloc (.cells #[.int .i64 (k : Int), .slice (some ⟨gb, 0, none⟩) n n] 31) = w3 at HS3 ⊢
    refine (dec_any BA b bc w3 H0.out.1.1 H0.out.1.2 (H0.out.2.1.keeps0 HS3.out.2.2.2) (fun a ha h0 => Nat.lt_of_lt_of_le (H0.out.2.2 a ha h0) HS3.out.2.2.2.size)).mono ?_
    rintro e w4 hp
    have HP := Lib.hid hp
    rcases hp with ⟨hok, g2, Af, cf, rfl, hf, _, _, hk4⟩ | ⟨hno, rfl, hk4⟩
    case' _ =>
      have HOK := Lib.hid hok
      have H4 := Lib.hid (And.intro hf (HS3.out.keeps0 hk4))
      clear HP hok hf hk4 HS3
      go_wp2_with fail
      refine (rdec_any BA b bc w4 H0.out.1.1 H0.out.1.2 (H0.out.2.1.keeps0 H4.out.2.2.2.2) (fun a ha h0 => Nat.lt_of_lt_of_le (H0.out.2.2 a ha h0) H4.out.2.2.2.2.size)).mono ?_
      rintro e w5 hp
      rcases hp with ⟨_, gb2, rfl, _, hrow, hk5⟩ | ⟨hno, _⟩
      rotate_left
      · exact absurd HOK.out hno
      obtain ⟨n2, hn2⟩ : ∃ n2, n2 = nK b := ⟨_, rfl⟩
      obtain ⟨k2, hk2⟩ : ∃ k2, k2 = kK b := ⟨_, rfl⟩
      obtain ⟨x2, hx2⟩ : ∃ x2, x2 = xK b := ⟨_, rfl⟩
      have H5 := Lib.hid (show Fm w5 g2 n2 k2 Af cf x2 ∧ w5.heap[gb2]? = some (.cells (bitsL n2 x2).toArray 4 (0, 0)) ∧ RunS w w5 g n k A1 m gr z z (some ⟨gb, 0, none⟩) n from ⟨by rw [hn2, hk2, hx2]; exact H4.out.1.keeps0 hk5, by rw [hn2, hx2]; exact hrow, H4.out.2.keeps0 hk5⟩)
      rw [← hn2, ← hk2]
      have HN2 := Lib.hid (And.intro hn2 (And.intro hk2 hx2))
      clear hrow hk5 H4 hn2 hk2 hx2
      obtain ⟨gr2, hgr2⟩ : ∃ gr2, gr2 = w5.heap.size := ⟨_, rfl⟩
      have HG2 := Lib.hid hgr2
      clear hgr2
      have H6 := Lib.hid (show Fm (w5.alloc (.cells #[.int .i64 (k2 : Int), .slice (some ⟨gb2, 0, none⟩) n2 n2] 31)) g2 n2 k2 Af cf x2 ∧ (w5.alloc (.cells #[.int .i64 (k2 : Int), .slice (some ⟨gb2, 0, none⟩) n2 n2] 31)).heap[gb2]? = some (.cells (bitsL n2 x2).toArray 4 (0, 0)) ∧ RunS w (w5.alloc (.cells #[.int .i64 (k2 : Int), .slice (some ⟨gb2, 0, none⟩) n2 n2] 31)) g n k A1 m gr z z (some ⟨gb, 0, none⟩) n ∧ (w5.alloc (.cells #[.int .i64 (k2 : Int), .slice (some ⟨gb2, 0, none⟩) n2 n2] 31)).heap[gr2]? = some (.cells #[.int .i64 (k2 : Int), .slice (some ⟨gb2, 0, none⟩) n2 n2] 31 (0, 0)) from by
        have hka := (Keeps.refl [] w5).alloc (.cells #[.int .i64 (k2 : Int), .slice (some ⟨gb2, 0, none⟩) n2 n2] 31)
        exact ⟨H5.out.1.keeps0 hka, (hka.block gb2 (lt_of_block H5.out.2.1) (by simp)).trans H5.out.2.1, H5.out.2.2.keeps0 hka, by rw [HG2.out]; exact heap_alloc_new _ _⟩)
      clear H5
      go_upto_region 5 with fail
      rw [← HG2.out]
      generalize w5.alloc (.cells #[.int .i64 (k2 : Int), .slice (some ⟨gb2, 0, none⟩) n2 n2] 31) = w6 at H6 ⊢
      have HFIT := Lib.hid (show n2 ≤ 1048576 ∧ k2 ≤ 16 ∧ x2.length ≤ 1048576 ∧ encK n2 k2 x2 = b ∧ x2.length = (n2 + 7) / 8 ∧ (∀ t, n2 ≤ t → t < 8 * x2.length → hasBit x2 t = false) from by
        have h1 := HOK.out.2.1
        have h2 := HOK.out.2.2.1
        have h3 := HOK.out.2.2.2
        rw [← HN2.out.1, ← HN2.out.2.1] at h1
        rw [← HN2.out.1, ← HN2.out.2.2] at h2
        rw [← HN2.out.1, ← HN2.out.2.2] at h3
        unfold FitB at h1
        refine ⟨by omega, by omega, by omega, ?_, h2, fun t t1 t2 => ?_⟩
        · rw [HN2.out.1, HN2.out.2.1, HN2.out.2.2]
          exact enc_dec HOK.out
        · cases hb : hasBit x2 t with
          | false => rfl
          | true => exact absurd h3 (spare_some rfl h2 t1 (by omega) hb))
      refine seq_start (by kernel_rfl) (fun z' => Keeps [] w6 z') 30 [0, 1, 2, 3, 4, 5, 6, 7, 8, 9, 10, 11, 12, 13, 14, 15, 16, 17, 18, 19, 20, 21, 22, 23, 24, 25, 26, 27, 28, 29] rfl ((Keeps.refl [] w6).drew) (fun hS => ?_)
      have H6d := Lib.hid (show Fm w6.drew g2 n2 k2 Af cf x2 ∧ w6.drew.heap[gb2]? = some (.cells (bitsL n2 x2).toArray 4 (0, 0)) ∧ RunS w w6.drew g n k A1 m gr z z (some ⟨gb, 0, none⟩) n ∧ w6.drew.heap[gr2]? = some (.cells #[.int .i64 (k2 : Int), .slice (some ⟨gb2, 0, none⟩) n2 n2] 31 (0, 0)) from ⟨H6.out.1, H6.out.2.1, H6.out.2.2.1.keeps0 (Keeps.refl [] w6).drew, H6.out.2.2.2⟩)
      have HK6 := Lib.hid (show Keeps [] w6 w6.drew from (Keeps.refl [] w6).drew)
      clear H6
      generalize w6.drew = w7 at H6d HK6 hS ⊢
      refine seq_take (v := ?_) rfl (by kernel_rfl) (by kernel_rfl) (by kernel_rfl) (Or.inl ⟨by rfl, fun w' hSw => ?_⟩) (by assumption) ?_
      rotate_left
      · go_simp
        with_reducible rfl
      simp only [Act.put, List.setIfInBounds_toArray, List.set_cons_zero, List.set_cons_succ]
      iterate 1 (refine seq_later ?_; simp only [List.cons_append, List.nil_append])
      refine seq_take (v := ?_) rfl (by kernel_rfl) (by kernel_rfl) (by kernel_rfl) (Or.inl ⟨by rfl, fun w' hSw => ?_⟩) (by assumption) ?_
      rotate_left
      · go_simp
        with_reducible rfl
      simp only [Act.put, List.setIfInBounds_toArray, List.set_cons_zero, List.set_cons_succ]
      iterate 27 (refine seq_later ?_; simp only [List.cons_append, List.nil_append])
      refine seq_do rfl (by kernel_rfl) (by rfl) (fun K hK => ?_)
      go_simp
      refine (num_nil _).mono ?_
      rintro e w8 ⟨rfl, hk8⟩
      have HK8 := Lib.hid hk8
      refine hK.out (fun z' => Keeps [] w8 z') _ _ (fun _ h => (HK6.out.trans HK8.out (by simp)).trans h (by simp)) (Keeps.refl [] w8) (fun hS => ?_)
      clear hk8
      refine seq_take (v := ?_) rfl (by kernel_rfl) (by kernel_rfl) (by kernel_rfl) (Or.inl ⟨by rfl, fun w' hSw => ?_⟩) (by assumption) ?_
      rotate_left
      · go_simp
        with_reducible rfl
      simp only [Act.put, List.setIfInBounds_toArray, List.set_cons_zero, List.set_cons_succ]
      refine seq_take (v := ?_) rfl (by kernel_rfl) (by kernel_rfl) (by kernel_rfl) (Or.inl ⟨by rfl, fun w' hSw => ?_⟩) (by assumption) ?_
      rotate_left
      · go_simp
        with_reducible rfl
      simp only [Act.put, List.setIfInBounds_toArray, List.set_cons_zero, List.set_cons_succ]
      refine seq_take (v := ?_) rfl (by kernel_rfl) (by kernel_rfl) (by kernel_rfl) (Or.inl ⟨by rfl, fun w' hSw => ?_⟩) (by assumption) ?_
      rotate_left
      · go_simp
        with_reducible rfl
      simp only [Act.put, List.setIfInBounds_toArray, List.set_cons_zero, List.set_cons_succ]
      iterate 1 (refine seq_later ?_; simp only [List.cons_append, List.nil_append])
      refine seq_take (v := ?_) rfl (by kernel_rfl) (by kernel_rfl) (by kernel_rfl) (Or.inl ⟨by rfl, fun w' hSw => ?_⟩) (by assumption) ?_
      rotate_left
      · go_simp
        with_reducible rfl
      simp only [Act.put, List.setIfInBounds_toArray, List.set_cons_zero, List.set_cons_succ]
      iterate 22 (refine seq_later ?_; simp only [List.cons_append, List.nil_append])
      refine seq_do rfl (by kernel_rfl) (by rfl) (fun K hK => ?_)
      go_simp
      refine (num_nil _).mono ?_
      rintro e w9 ⟨rfl, hk9⟩
      have H9 := Lib.hid (show Fm w9 g2 n2 k2 Af cf x2 ∧ w9.heap[gb2]? = some (.cells (bitsL n2 x2).toArray 4 (0, 0)) ∧ RunS w w9 g n k A1 m gr z z (some ⟨gb, 0, none⟩) n ∧ w9.heap[gr2]? = some (.cells #[.int .i64 (k2 : Int), .slice (some ⟨gb2, 0, none⟩) n2 n2] 31 (0, 0)) from by
        have hk := HK8.out.trans hk9 (by simp)
        exact ⟨H6d.out.1.keeps0 hk, (hk.block _ (lt_of_block H6d.out.2.1) (by simp)).trans H6d.out.2.1, H6d.out.2.2.1.keeps0 hk, (hk.block _ (lt_of_block H6d.out.2.2.2) (by simp)).trans H6d.out.2.2.2⟩)
      have HK9 := Lib.hid hk9
      clear H6d hk9
      refine hK.out (fun z' => Keeps [] w9 z') _ _ (fun _ h => HK9.out.trans h (by simp)) (Keeps.refl [] w9) (fun hS => ?_)
      have hq0 : ∀ z', Keeps [] w9 z' → z'.cell? ⟨gr2, 0, none⟩ = some (.int .i64 (k2 : Int)) := fun z' hz => hz.cell (by rw [cell_of_row _ _ _ _ _ _ H9.out.2.2.2]; rfl) (by simp)
      have hq1 : ∀ z', Keeps [] w9 z' → z'.cell? ⟨gr2, 1, none⟩ = some (.slice (some ⟨gb2, 0, none⟩) n2 n2) := fun z' hz => hz.cell (by rw [cell_of_row _ _ _ _ _ _ H9.out.2.2.2]; rfl) (by simp)
      refine seq_take (v := ?_) rfl (by kernel_rfl) (by kernel_rfl) (by kernel_rfl) (Or.inl ⟨by rfl, fun w' hSw => ?_⟩) (by assumption) ?_
      rotate_left
      · go_simp
        with_reducible rfl
      simp only [Act.put, List.setIfInBounds_toArray, List.set_cons_zero, List.set_cons_succ]
      refine seq_take (v := ?_) rfl (by kernel_rfl) (by kernel_rfl) (by kernel_rfl) (Or.inl ⟨by rfl, fun w' hSw => ?_⟩) (by assumption) ?_
      rotate_left
      · go_simp
        with_reducible rfl
      simp only [Act.put, List.setIfInBounds_toArray, List.set_cons_zero, List.set_cons_succ]
      refine seq_take (v := ?_) rfl (by kernel_rfl) (by kernel_rfl) (by kernel_rfl) (Or.inl ⟨by rfl, fun w' hSw => ?_⟩) (by assumption) ?_
      rotate_left
      · go_simp
        with_reducible rfl
      simp only [Act.put, List.setIfInBounds_toArray, List.set_cons_zero, List.set_cons_succ]
      refine seq_take (v := ?_) rfl (by kernel_rfl) (by kernel_rfl) (by kernel_rfl) (Or.inl ⟨by rfl, fun w' hSw => ?_⟩) (by assumption) ?_
      rotate_left
      · go_simp
        with_reducible rfl
      simp only [Act.put, List.setIfInBounds_toArray, List.set_cons_zero, List.set_cons_succ]
      refine seq_take (v := ?_) rfl (by kernel_rfl) (by kernel_rfl) (by kernel_rfl) (Or.inl ⟨by rfl, fun w' hSw => ?_⟩) (by assumption) ?_
      rotate_left
      · go_simp
        with_reducible rfl
      simp only [Act.put, List.setIfInBounds_toArray, List.set_cons_zero, List.set_cons_succ]
      refine seq_take (v := ?_) rfl (by kernel_rfl) (by kernel_rfl) (by kernel_rfl) (Or.inl ⟨by rfl, fun w' hSw => ?_⟩) (by assumption) ?_
      rotate_left
      · go_simp
        with_reducible rfl
      simp only [Act.put, List.setIfInBounds_toArray, List.set_cons_zero, List.set_cons_succ]
      refine seq_take (v := ?_) rfl (by kernel_rfl) (by kernel_rfl) (by kernel_rfl) (Or.inl ⟨by rfl, fun w' hSw => ?_⟩) (by assumption) ?_
      rotate_left
      · go_simp
        with_reducible rfl
      simp only [Act.put, List.setIfInBounds_toArray, List.set_cons_zero, List.set_cons_succ]
      refine seq_take (v := ?_) rfl (by kernel_rfl) (by kernel_rfl) (by kernel_rfl) (Or.inl ⟨by rfl, fun w' hSw => ?_⟩) (by assumption) ?_
      rotate_left
      · go_simp
        with_reducible rfl
      simp only [Act.put, List.setIfInBounds_toArray, List.set_cons_zero, List.set_cons_succ]
      refine seq_take (v := ?_) rfl (by kernel_rfl) (by kernel_rfl) (by kernel_rfl) (Or.inl ⟨by rfl, fun w' hSw => ?_⟩) (by assumption) ?_
      rotate_left
      · go_simp
        with_reducible rfl
      simp only [Act.put, List.setIfInBounds_toArray, List.set_cons_zero, List.set_cons_succ]
      refine seq_take (v := ?_) rfl (by kernel_rfl) (by kernel_rfl) (by kernel_rfl) (Or.inl ⟨by rfl, fun w' hSw => ?_⟩) (by assumption) ?_
      rotate_left
      · go_simp
        with_reducible rfl
      simp only [Act.put, List.setIfInBounds_toArray, List.set_cons_zero, List.set_cons_succ]
      refine seq_take (v := ?_) rfl (by kernel_rfl) (by kernel_rfl) (by kernel_rfl) (Or.inl ⟨by rfl, fun w' hSw => ?_⟩) (by assumption) ?_
      rotate_left
      · go_simp
        with_reducible rfl
      simp only [Act.put, List.setIfInBounds_toArray, List.set_cons_zero, List.set_cons_succ]
      refine seq_take (v := ?_) rfl (by kernel_rfl) (by kernel_rfl) (by kernel_rfl) (Or.inl ⟨by rfl, fun w' hSw => ?_⟩) (by assumption) ?_
      rotate_left
      · go_simp
        with_reducible rfl
      simp only [Act.put, List.setIfInBounds_toArray, List.set_cons_zero, List.set_cons_succ]
      refine seq_take (v := ?_) rfl (by kernel_rfl) (by kernel_rfl) (by kernel_rfl) (Or.inl ⟨by rfl, fun w' hSw => ?_⟩) (by assumption) ?_
      rotate_left
      · go_simp
        with_reducible rfl
      simp only [Act.put, List.setIfInBounds_toArray, List.set_cons_zero, List.set_cons_succ]
      refine seq_take (v := ?_) rfl (by kernel_rfl) (by kernel_rfl) (by kernel_rfl) (Or.inl ⟨by rfl, fun w' hSw => ?_⟩) (by assumption) ?_
      rotate_left
      · go_simp
        with_reducible rfl
      simp only [Act.put, List.setIfInBounds_toArray, List.set_cons_zero, List.set_cons_succ]
      iterate 2 (refine seq_later ?_; simp only [List.cons_append, List.nil_append])
      refine seq_take (v := ?_) rfl (by kernel_rfl) (by kernel_rfl) (by kernel_rfl) (Or.inl ⟨by rfl, fun w' hSw => ?_⟩) (by assumption) ?_
      rotate_left
      · go_simp
        with_reducible rfl
      simp only [Act.put, List.setIfInBounds_toArray, List.set_cons_zero, List.set_cons_succ]
      iterate 5 (refine seq_later ?_; simp only [List.cons_append, List.nil_append])
      refine seq_do rfl (by kernel_rfl) (by rfl) (fun K hK => ?_)
      go_simp
      refine (enc_any g2 n2 k2 Af cf x2 _ H9.out.1 HFIT.out.1 HFIT.out.2.1 HFIT.out.2.2.1).mono ?_
      rintro e w10 ⟨A6, c6, l6, hl6, rfl, ho6, hn6, hk10⟩
      have F1 := conv_keeps (P := Tryd.prog) (dst := 9) Tryd.underlying44 Tryd.underlying5 Tryd.underlying9 ho6.rd c6
      have HL6 := Lib.hid hl6.out
      have H10 := Lib.hid (show w10.heap[gb2]? = some (.cells (bitsL n2 x2).toArray 4 (0, 0)) ∧ RunS w w10 g n k A1 m gr z z (some ⟨gb, 0, none⟩) n from ⟨(hk10.block _ (lt_of_block H9.out.2.1) (by simp)).trans H9.out.2.1, H9.out.2.2.1.keeps0 hk10⟩)
      have HK10 := Lib.hid hk10
      clear hl6 ho6 hn6 hk10 H9 hq0 hq1
      refine hK.out (fun z' => Keeps [] w10 z') _ _ (fun _ h => HK10.out.trans h (by simp)) (Keeps.refl [] w10) (fun hS => ?_)
      refine seq_take (v := ?_) rfl (by kernel_rfl) (by kernel_rfl) (by kernel_rfl) (Or.inl ⟨by rfl, fun w' hSw => ?_⟩) (by assumption) ?_
      rotate_left
      · go_simp
        with_reducible rfl
      simp only [Act.put, List.setIfInBounds_toArray, List.set_cons_zero, List.set_cons_succ]
      refine seq_do rfl (by kernel_rfl) (by rfl) (fun K hK => ?_)
      go_simp
      refine (renc_any (some ⟨gb2, 0, none⟩) n2 n2 k2 x2 w10 (rd_row H10.out.1 (bitsL_len _ _)) HFIT.out.1 HFIT.out.2.1 HFIT.out.2.2.2.2.1 HFIT.out.2.2.2.2.2).mono ?_
      rintro e w11 ⟨A7, c7, l7, hl7, rfl, ho7, hn7, hk11⟩
      obtain rfl : l7 = l6 := hl7.out.trans HL6.out.symm
      have F2 := conv_keeps (P := Tryd.prog) (dst := 9) Tryd.underlying44 Tryd.underlying5 Tryd.underlying9 ho7.rd c7
      have HE := Lib.hid (H10.out.2.keeps0 hk11)
      have HK11 := Lib.hid hk11
      clear hl7 ho7 hn7 hk11 H10 F1
      refine hK.out (fun z' => Keeps [] w11 z') _ _ (fun _ h => HK11.out.trans h (by simp)) (Keeps.refl [] w11) (fun hS => ?_)
      refine seq_take (v := ?_) rfl (by kernel_rfl) (by kernel_rfl) (by kernel_rfl) (Or.inl ⟨by rfl, fun w' hSw => ?_⟩) (by assumption) ?_
      rotate_left
      · go_simp
        with_reducible rfl
      simp only [Act.put, List.setIfInBounds_toArray, List.set_cons_zero, List.set_cons_succ]
      refine seq_take (v := ?_) rfl (by kernel_rfl) (by kernel_rfl) (by kernel_rfl) (Or.inl ⟨by rfl, fun w' hSw => ?_⟩) (by assumption) ?_
      rotate_left
      · go_simp
        with_reducible rfl
      simp only [Act.put, List.setIfInBounds_toArray, List.set_cons_zero, List.set_cons_succ]
      refine seq_take (v := ?_) rfl (by kernel_rfl) (by kernel_rfl) (by kernel_rfl) (Or.inl ⟨by rfl, fun w' hSw => ?_⟩) (by assumption) ?_
      rotate_left
      · go_simp
        with_reducible rfl
      simp only [Act.put, List.setIfInBounds_toArray, List.set_cons_zero, List.set_cons_succ]
      refine seq_take (v := ?_) rfl (by kernel_rfl) (by kernel_rfl) (by kernel_rfl) (Or.inl ⟨by rfl, fun w' hSw => ?_⟩) (by assumption) ?_
      rotate_left
      · go_simp
        with_reducible rfl
      simp only [Act.put, List.setIfInBounds_toArray, List.set_cons_zero, List.set_cons_succ]
      refine seq_done (by kernel_rfl) ?_
      all_goals skip
      clear F2 hS HK6 HK8 HK9 HK10 HK11 HFIT HOK HN2 HG2
      generalize w11 = V at HE ⊢
    rotate_left
    case' _ =>
      have HNO := Lib.hid hno
      have H4 := Lib.hid (HS3.out.keeps0 hk4)
      rw [errV_other (by decide)]
      clear HP hno hk4 HS3
      go_wp2_with fail
      refine (rdec_any BA b bc w4 H0.out.1.1 H0.out.1.2 (H0.out.2.1.keeps0 H4.out.2.2.2) (fun a ha h0 => Nat.lt_of_lt_of_le (H0.out.2.2 a ha h0) H4.out.2.2.2.size)).mono ?_
      rintro e w5 hp
      rcases hp with ⟨hok, _⟩ | ⟨_, rfl, hk5⟩
      · exact absurd hok HNO.out
      have H6 := Lib.hid ((H4.out.keeps0 hk5).keeps0 ((Keeps.refl [] w5).alloc (.cells #[.int .i64 0, .slice none 0 0] 31)))
      clear hk5 H4
      go_upto_region 5 with fail
      generalize w5.alloc (.cells #[.int .i64 0, .slice none 0 0] 31) = w6 at H6 ⊢
      refine seq_start (by kernel_rfl) (fun _ => True) 30 [0, 1, 2, 3, 4, 5, 6, 7, 8, 9, 10, 11, 12, 13, 14, 15, 16, 17, 18, 19, 20, 21, 22, 23, 24, 25, 26, 27, 28, 29] rfl (trivial) (fun hS => ?_)
      have H6d := Lib.hid (H6.out.keeps0 (Keeps.refl [] w6).drew)
      clear H6
      generalize w6.drew = w7 at H6d hS ⊢
      refine seq_take (v := ?_) rfl (by kernel_rfl) (by kernel_rfl) (by kernel_rfl) (Or.inl ⟨by rfl, fun w' hSw => ?_⟩) (by assumption) ?_
      rotate_left
      · go_simp
        with_reducible rfl
      simp only [Act.put, List.setIfInBounds_toArray, List.set_cons_zero, List.set_cons_succ]
      iterate 1 (refine seq_later ?_; simp only [List.cons_append, List.nil_append])
      refine seq_take (v := ?_) rfl (by kernel_rfl) (by kernel_rfl) (by kernel_rfl) (Or.inl ⟨by rfl, fun w' hSw => ?_⟩) (by assumption) ?_
      rotate_left
      · go_simp
        with_reducible rfl
      simp only [Act.put, List.setIfInBounds_toArray, List.set_cons_zero, List.set_cons_succ]
      iterate 27 (refine seq_later ?_; simp only [List.cons_append, List.nil_append])
      refine seq_do rfl (by kernel_rfl) (by rfl) (fun K hK => ?_)
      go_simp
      refine (num_nil _).mono ?_
      rintro e w8 ⟨rfl, hk8⟩
      have H8 := Lib.hid (H6d.out.keeps0 hk8)
      refine hK.out (fun _ => True) _ _ (fun _ _ => trivial) trivial (fun hS => ?_)
      clear hk8 H6d
      refine seq_take (v := ?_) rfl (by kernel_rfl) (by kernel_rfl) (by kernel_rfl) (Or.inl ⟨by rfl, fun w' hSw => ?_⟩) (by assumption) ?_
      rotate_left
      · go_simp
        with_reducible rfl
      simp only [Act.put, List.setIfInBounds_toArray, List.set_cons_zero, List.set_cons_succ]
      refine seq_take (v := ?_) rfl (by kernel_rfl) (by kernel_rfl) (by kernel_rfl) (Or.inl ⟨by rfl, fun w' hSw => ?_⟩) (by assumption) ?_
      rotate_left
      · go_simp
        with_reducible rfl
      simp only [Act.put, List.setIfInBounds_toArray, List.set_cons_zero, List.set_cons_succ]
      refine seq_take (v := ?_) rfl (by kernel_rfl) (by kernel_rfl) (by kernel_rfl) (Or.inl ⟨by rfl, fun w' hSw => ?_⟩) (by assumption) ?_
      rotate_left
      · go_simp
        with_reducible rfl
      simp only [Act.put, List.setIfInBounds_toArray, List.set_cons_zero, List.set_cons_succ]
      iterate 1 (refine seq_later ?_; simp only [List.cons_append, List.nil_append])
      refine seq_take (v := ?_) rfl (by kernel_rfl) (by kernel_rfl) (by kernel_rfl) (Or.inl ⟨by rfl, fun w' hSw => ?_⟩) (by assumption) ?_
      rotate_left
      · go_simp
        with_reducible rfl
      simp only [Act.put, List.setIfInBounds_toArray, List.set_cons_zero, List.set_cons_succ]
      iterate 22 (refine seq_later ?_; simp only [List.cons_append, List.nil_append])
      refine seq_do rfl (by kernel_rfl) (by rfl) (fun K hK => ?_)
      go_simp
      refine (num_err 3 _ (HTT.out.keeps H8.out.2.2.2 (by simp))).mono ?_
      rintro e w9 ⟨rfl, hk9⟩
      have HE := Lib.hid (H8.out.keeps0 hk9)
      clear H8 hk9
      refine hK.out (fun _ => True) _ _ (fun _ _ => trivial) trivial (fun hS => ?_)
      refine seq_take (v := ?_) rfl (by kernel_rfl) (by kernel_rfl) (by kernel_rfl) (Or.inl ⟨by rfl, fun w' hSw => ?_⟩) (by assumption) ?_
      rotate_left
      · go_simp
        with_reducible rfl
      simp only [Act.put, List.setIfInBounds_toArray, List.set_cons_zero, List.set_cons_succ]
      refine seq_take (v := ?_) rfl (by kernel_rfl) (by kernel_rfl) (by kernel_rfl) (Or.inl ⟨by rfl, fun w' hSw => ?_⟩) (by assumption) ?_
      rotate_left
      · go_simp
        with_reducible rfl
      simp only [Act.put, List.setIfInBounds_toArray, List.set_cons_zero, List.set_cons_succ]
      refine seq_take (v := ?_) rfl (by kernel_rfl) (by kernel_rfl) (by kernel_rfl) (Or.inl ⟨by rfl, fun w' hSw => ?_⟩) (by assumption) ?_
      rotate_left
      · go_simp
        with_reducible rfl
      simp only [Act.put, List.setIfInBounds_toArray, List.set_cons_zero, List.set_cons_succ]
      refine seq_take (v := ?_) rfl (by kernel_rfl) (by kernel_rfl) (by kernel_rfl) (Or.inl ⟨by rfl, fun w' hSw => ?_⟩) (by assumption) ?_
      rotate_left
      · go_simp
        with_reducible rfl
      simp only [Act.put, List.setIfInBounds_toArray, List.set_cons_zero, List.set_cons_succ]
      refine seq_take (v := ?_) rfl (by kernel_rfl) (by kernel_rfl) (by kernel_rfl) (Or.inl ⟨by rfl, fun w' hSw => ?_⟩) (by assumption) ?_
      rotate_left
      · go_simp
        with_reducible rfl
      simp only [Act.put, List.setIfInBounds_toArray, List.set_cons_zero, List.set_cons_succ]
      refine seq_take (v := ?_) rfl (by kernel_rfl) (by kernel_rfl) (by kernel_rfl) (Or.inl ⟨by rfl, fun w' hSw => ?_⟩) (by assumption) ?_
      rotate_left
      · go_simp
        with_reducible rfl
      simp only [Act.put, List.setIfInBounds_toArray, List.set_cons_zero, List.set_cons_succ]
      refine seq_take (v := ?_) rfl (by kernel_rfl) (by kernel_rfl) (by kernel_rfl) (Or.inl ⟨by rfl, fun w' hSw => ?_⟩) (by assumption) ?_
      rotate_left
      · go_simp
        with_reducible rfl
      simp only [Act.put, List.setIfInBounds_toArray, List.set_cons_zero, List.set_cons_succ]
      refine seq_take (v := ?_) rfl (by kernel_rfl) (by kernel_rfl) (by kernel_rfl) (Or.inl ⟨by rfl, fun w' hSw => ?_⟩) (by assumption) ?_
      rotate_left
      · go_simp
        with_reducible rfl
      simp only [Act.put, List.setIfInBounds_toArray, List.set_cons_zero, List.set_cons_succ]
      refine seq_take (v := ?_) rfl (by kernel_rfl) (by kernel_rfl) (by kernel_rfl) (Or.inl ⟨by rfl, fun w' hSw => ?_⟩) (by assumption) ?_
      rotate_left
      · go_simp
        with_reducible rfl
      simp only [Act.put, List.setIfInBounds_toArray, List.set_cons_zero, List.set_cons_succ]
      refine seq_take (v := ?_) rfl (by kernel_rfl) (by kernel_rfl) (by kernel_rfl) (Or.inl ⟨by rfl, fun w' hSw => ?_⟩) (by assumption) ?_
      rotate_left
      · go_simp
        with_reducible rfl
      simp only [Act.put, List.setIfInBounds_toArray, List.set_cons_zero, List.set_cons_succ]
      refine seq_take (v := ?_) rfl (by kernel_rfl) (by kernel_rfl) (by kernel_rfl) (Or.inl ⟨by rfl, fun w' hSw => ?_⟩) (by assumption) ?_
      rotate_left
      · go_simp
        with_reducible rfl
      simp only [Act.put, List.setIfInBounds_toArray, List.set_cons_zero, List.set_cons_succ]
      refine seq_take (v := ?_) rfl (by kernel_rfl) (by kernel_rfl) (by kernel_rfl) (Or.inl ⟨by rfl, fun w' hSw => ?_⟩) (by assumption) ?_
      rotate_left
      · go_simp
        with_reducible rfl
      simp only [Act.put, List.setIfInBounds_toArray, List.set_cons_zero, List.set_cons_succ]
      refine seq_take (v := ?_) rfl (by kernel_rfl) (by kernel_rfl) (by kernel_rfl) (Or.inl ⟨by rfl, fun w' hSw => ?_⟩) (by assumption) ?_
      rotate_left
      · go_simp
        with_reducible rfl
      simp only [Act.put, List.setIfInBounds_toArray, List.set_cons_zero, List.set_cons_succ]
      refine seq_take (v := undef) rfl (by kernel_rfl) (by kernel_rfl) (by kernel_rfl) (Or.inr ⟨by rfl, rfl⟩) (by assumption) ?_
      simp only [Act.put, List.setIfInBounds_toArray, List.set_cons_zero, List.set_cons_succ]
      refine seq_take (v := undef) rfl (by kernel_rfl) (by kernel_rfl) (by kernel_rfl) (Or.inr ⟨by rfl, rfl⟩) (by assumption) ?_
      simp only [Act.put, List.setIfInBounds_toArray, List.set_cons_zero, List.set_cons_succ]
      refine seq_take (v := undef) rfl (by kernel_rfl) (by kernel_rfl) (by kernel_rfl) (Or.inr ⟨by rfl, rfl⟩) (by assumption) ?_
      simp only [Act.put, List.setIfInBounds_toArray, List.set_cons_zero, List.set_cons_succ]
      refine seq_take (v := undef) rfl (by kernel_rfl) (by kernel_rfl) (by kernel_rfl) (Or.inr ⟨by rfl, rfl⟩) (by assumption) ?_
      simp only [Act.put, List.setIfInBounds_toArray, List.set_cons_zero, List.set_cons_succ]
      refine seq_take (v := undef) rfl (by kernel_rfl) (by kernel_rfl) (by kernel_rfl) (Or.inr ⟨by rfl, rfl⟩) (by assumption) ?_
      simp only [Act.put, List.setIfInBounds_toArray, List.set_cons_zero, List.set_cons_succ]
      refine seq_take (v := undef) rfl (by kernel_rfl) (by kernel_rfl) (by kernel_rfl) (Or.inr ⟨by rfl, rfl⟩) (by assumption) ?_
      simp only [Act.put, List.setIfInBounds_toArray, List.set_cons_zero, List.set_cons_succ]
      refine seq_take (v := undef) rfl (by kernel_rfl) (by kernel_rfl) (by kernel_rfl) (Or.inr ⟨by rfl, rfl⟩) (by assumption) ?_
      simp only [Act.put, List.setIfInBounds_toArray, List.set_cons_zero, List.set_cons_succ]
      refine seq_take (v := ?_) rfl (by kernel_rfl) (by kernel_rfl) (by kernel_rfl) (Or.inl ⟨by rfl, fun w' hSw => ?_⟩) (by assumption) ?_
      rotate_left
      · go_simp
        with_reducible rfl
      simp only [Act.put, List.setIfInBounds_toArray, List.set_cons_zero, List.set_cons_succ]
      refine seq_take (v := ?_) rfl (by kernel_rfl) (by kernel_rfl) (by kernel_rfl) (Or.inl ⟨by rfl, fun w' hSw => ?_⟩) (by assumption) ?_
      rotate_left
      · go_simp
        with_reducible rfl
      simp only [Act.put, List.setIfInBounds_toArray, List.set_cons_zero, List.set_cons_succ]
      refine seq_done (by kernel_rfl) ?_
      all_goals skip
      clear hS HNO
      generalize w9 = V at HE ⊢
    all_goals
      go_upto_region 11 with fail
      have INV := Lib.hid (show RunS w V g n k A1 m gr z z (some ⟨gb, 0, none⟩) n ∧ (∀ a, (some ⟨gb, 0, none⟩ : Option Addr) = some a → a.block ∉ blk A1 ∧ a.block ≠ gr) ∧ z.length = m ∧ (∀ t, n ≤ t → t < 8 * m → hasBit z t = false) from
        ⟨HE.out, fun a ha => by cases ha; exact ⟨fun hm => by obtain ⟨a1, e1, e2⟩ := mem_blk.1 hm; exact (HAP.out.2.2.1 a1 e1).2.2 e2, HAP.out.2.2.2⟩, by rw [HZ.out]; simp, fun t _ _ => by rw [HZ.out]; exact zero_spare m t⟩)
      have HAQ := Lib.hid (show w.heap.size ≤ gr ∧ g ≠ gr ∧ (∀ a, A1 = some a → w.heap.size ≤ a.block ∧ a.block ≠ gr) ∧ gr ∉ blk A1 from ⟨HAP.out.1, HAP.out.2.1, fun a ha => ⟨(HAP.out.2.2.1 a ha).1, by have := (HAP.out.2.2.1 a ha).2.1; omega⟩, fun hm => by obtain ⟨a1, e1, e2⟩ := mem_blk.1 hm; have := (HAP.out.2.2.1 a1 e1).2.1; omega⟩)
      have HMN := Lib.hid (show n ≤ 8 * m ∧ m ≤ 1048576 from by have := HM.out; have := HNK.out; omega)
      clear HE HAP HG
      go_wp2_with fail
      go_loopw [16] (fun si wr => ∃ (i : Nat) (bx : List UInt8) (A : Option Addr) (c : Nat), si = .int .i64 i ∧ i ≤ 12 ∧ Hid (RunS w wr g n k A1 m gr bx bx A c ∧ (∀ a, A = some a → a.block ∉ blk A1 ∧ a.block ≠ gr) ∧ bx.length = m ∧ (∀ t, n ≤ t → t < 8 * m → hasBit bx t = false))) (fun si _ => 12 - (intOf si).toNat)
      case atStart => exact ⟨0, z, _, _, rfl, by omega, INV.out⟩
      case round =>
        clear INV
        obtain ⟨i, bx, A, c, rfl, hi, hinv⟩ := hrel
        by_cases hgo : i < xs.length ∧ i < 12
        · have hik : (i : Int) < ((xs.length : Nat) : Int) := by omega
          have hi12 : (i : Int) < 12 := by omega
          have HIX := Lib.hid (show i + 1 ≤ 12 from by omega)
          obtain ⟨ga, o, hA, hga, hel⟩ := Rd.elems HRD.out (fun x _ => rfl) (by decide) (show 0 < xs.length by omega)
          obtain ⟨s, hs⟩ : ∃ s, s = (xs[i]'hgo.1).data.toList := ⟨_, rfl⟩
          have HC := Lib.hid (show ∀ z', Keeps [] w z' → z'.cell? ⟨ga, o + i, none⟩ = some (.string (strB s)) from fun z' hz => by
            have h1 := hel i hgo.1 0 (.string (xs[i]'hgo.1)) rfl
            rw [Nat.mul_one, Nat.add_zero] at h1
            rw [hs]
            exact hz.cell h1 (by simp))
          have HSL := Lib.hid (show s.length ≤ 140737488351232 from by rw [hs]; exact HSZ.out _ (List.getElem_mem _))
          subst hA
          obtain ⟨r, hr⟩ : ∃ r, r = i % 2 := ⟨_, rfl⟩
          have f2 : (i : Int).tmod 2 = (r : Int) := by rw [Int.tmod_eq_emod_of_nonneg (by omega)]; omega
          clear hs hel hga hgo hr
          go_upto_region 14 with fail
          have qa : ∀ z' : World, ((z'.cell? ⟨gr, 0, none⟩ = some (.int .i64 (k : Int)) ∧ z'.cell? ⟨gr, 1, none⟩ = some (.slice A n c)) ∧ z'.cell? ⟨ga, o + i, none⟩ = some (.string (strB s))) → z'.cell? ⟨gr, 0, none⟩ = some (.int .i64 (k : Int)) := fun z' hz => hz.1.1
          have qb : ∀ z' : World, ((z'.cell? ⟨gr, 0, none⟩ = some (.int .i64 (k : Int)) ∧ z'.cell? ⟨gr, 1, none⟩ = some (.slice A n c)) ∧ z'.cell? ⟨ga, o + i, none⟩ = some (.string (strB s))) → z'.cell? ⟨gr, 1, none⟩ = some (.slice A n c) := fun z' hz => hz.1.2
          have qc : ∀ z' : World, ((z'.cell? ⟨gr, 0, none⟩ = some (.int .i64 (k : Int)) ∧ z'.cell? ⟨gr, 1, none⟩ = some (.slice A n c)) ∧ z'.cell? ⟨ga, o + i, none⟩ = some (.string (strB s))) → z'.cell? ⟨ga, o + i, none⟩ = some (.string (strB s)) := fun z' hz => hz.2
          have HSS := Lib.hid (show (wr.cell? ⟨gr, 0, none⟩ = some (.int .i64 (k : Int)) ∧ wr.cell? ⟨gr, 1, none⟩ = some (.slice A n c)) ∧ wr.cell? ⟨ga, o + i, none⟩ = some (.string (strB s)) from ⟨⟨hinv.out.1.c0, hinv.out.1.c1⟩, HC.out _ hinv.out.1.2.2.2⟩)
          refine seq_start (by kernel_rfl) (fun z' => (z'.cell? ⟨gr, 0, none⟩ = some (.int .i64 (k : Int)) ∧ z'.cell? ⟨gr, 1, none⟩ = some (.slice A n c)) ∧ z'.cell? ⟨ga, o + i, none⟩ = some (.string (strB s))) 29 [0, 1, 2, 3, 4, 5, 6, 7, 8, 9, 10, 11, 12, 13, 14, 15, 16, 17, 18, 19, 20, 21, 22, 23, 24, 25, 26, 27, 28] rfl (HSS.out) (fun hS => ?_)
          have HI := Lib.hid (hinv.out.1.keeps0 (Keeps.refl [] wr).drew)
          have HX := Lib.hid (show (∀ a, A = some a → a.block ∉ blk A1 ∧ a.block ≠ gr) ∧ bx.length = m ∧ (∀ t, n ≤ t → t < 8 * m → hasBit bx t = false) ∧ n ≤ 8 * bx.length from ⟨hinv.out.2.1, hinv.out.2.2.1, hinv.out.2.2.2, by rw [hinv.out.2.2.1]; exact HMN.out.1⟩)
          clear hinv HSS
          generalize wr.drew = V1 at HI hS ⊢
          refine seq_take (v := ?_) rfl (by kernel_rfl) (by kernel_rfl) (by kernel_rfl) (Or.inl ⟨by rfl, fun w' hSw => ?_⟩) (by assumption) ?_
          rotate_left
          · go_simp
            with_reducible rfl
          simp only [Act.put, List.setIfInBounds_toArray, List.set_cons_zero, List.set_cons_succ]
          refine seq_take (v := ?_) rfl (by kernel_rfl) (by kernel_rfl) (by kernel_rfl) (Or.inl ⟨by rfl, fun w' hSw => ?_⟩) (by assumption) ?_
          rotate_left
          · go_simp
            with_reducible rfl
          simp only [Act.put, List.setIfInBounds_toArray, List.set_cons_zero, List.set_cons_succ]
          refine seq_take (v := ?_) rfl (by kernel_rfl) (by kernel_rfl) (by kernel_rfl) (Or.inl ⟨by rfl, fun w' hSw => ?_⟩) (by assumption) ?_
          rotate_left
          · go_simp
            with_reducible rfl
          simp only [Act.put, List.setIfInBounds_toArray, List.set_cons_zero, List.set_cons_succ]
          refine seq_take (v := ?_) rfl (by kernel_rfl) (by kernel_rfl) (by kernel_rfl) (Or.inl ⟨by rfl, fun w' hSw => ?_⟩) (by assumption) ?_
          rotate_left
          · go_simp
            with_reducible rfl
          simp only [Act.put, List.setIfInBounds_toArray, List.set_cons_zero, List.set_cons_succ]
          refine seq_take (v := ?_) rfl (by kernel_rfl) (by kernel_rfl) (by kernel_rfl) (Or.inl ⟨by rfl, fun w' hSw => ?_⟩) (by assumption) ?_
          rotate_left
          · go_simp
            with_reducible rfl
          simp only [Act.put, List.setIfInBounds_toArray, List.set_cons_zero, List.set_cons_succ]
          iterate 1 (refine seq_later ?_; simp only [List.cons_append, List.nil_append])
          refine seq_take (v := ?_) rfl (by kernel_rfl) (by kernel_rfl) (by kernel_rfl) (Or.inl ⟨by rfl, fun w' hSw => ?_⟩) (by assumption) ?_
          rotate_left
          · go_simp
            with_reducible rfl
          simp only [Act.put, List.setIfInBounds_toArray, List.set_cons_zero, List.set_cons_succ]
          refine seq_take (v := ?_) rfl (by kernel_rfl) (by kernel_rfl) (by kernel_rfl) (Or.inl ⟨by rfl, fun w' hSw => ?_⟩) (by assumption) ?_
          rotate_left
          · go_simp
            with_reducible rfl
          simp only [Act.put, List.setIfInBounds_toArray, List.set_cons_zero, List.set_cons_succ]
          refine seq_take (v := ?_) rfl (by kernel_rfl) (by kernel_rfl) (by kernel_rfl) (Or.inl ⟨by rfl, fun w' hSw => ?_⟩) (by assumption) ?_
          rotate_left
          · go_simp
            with_reducible rfl
          simp only [Act.put, List.setIfInBounds_toArray, List.set_cons_zero, List.set_cons_succ]
          refine seq_take (v := ?_) rfl (by kernel_rfl) (by kernel_rfl) (by kernel_rfl) (Or.inl ⟨by rfl, fun w' hSw => ?_⟩) (by assumption) ?_
          rotate_left
          · go_simp
            with_reducible rfl
          simp only [Act.put, List.setIfInBounds_toArray, List.set_cons_zero, List.set_cons_succ]
          refine seq_take (v := ?_) rfl (by kernel_rfl) (by kernel_rfl) (by kernel_rfl) (Or.inl ⟨by rfl, fun w' hSw => ?_⟩) (by assumption) ?_
          rotate_left
          · go_simp
            with_reducible rfl
          simp only [Act.put, List.setIfInBounds_toArray, List.set_cons_zero, List.set_cons_succ]
          iterate 18 (refine seq_later ?_; simp only [List.cons_append, List.nil_append])
          refine seq_do rfl (by kernel_rfl) (by rfl) (fun K hK => ?_)
          go_simp
          refine (bits_any g n k A1 m bx s V1 HI.out.1 HNK.out.1 HNK.out.2 HSL.out).mono ?_
          rintro e w2 ⟨gl, rfl, hib, hgl, hk2⟩
          have H2 := Lib.hid (show RunS w w2 g n k A1 m gr bx bx A c ∧ Rd w2 (some ⟨gl, 0, none⟩) k 1 (encI (bitsK n k s)) from ⟨HI.out.keeps0 hk2, rd_row hib (by simp)⟩)
          clear hib hgl hk2 HI
          refine hK.out (fun z' => (z'.cell? ⟨gr, 0, none⟩ = some (.int .i64 (k : Int)) ∧ z'.cell? ⟨gr, 1, none⟩ = some (.slice A n c)) ∧ z'.cell? ⟨ga, o + i, none⟩ = some (.string (strB s))) _ _ (fun _ h => h) ⟨⟨H2.out.1.c0, H2.out.1.c1⟩, HC.out _ H2.out.1.2.2.2⟩ (fun hS => ?_)
          refine seq_do rfl (by kernel_rfl) (by rfl) (fun K hK => ?_)
          go_simp
          refine (rbits_gen A c n k s w2 HNK.out.1 HNK.out.2 HSL.out).mono ?_
          rintro e w3 ⟨A3, c3, rfl, hrd3, hk3, _⟩
          have H3 := Lib.hid (show RunS w w3 g n k A1 m gr bx bx A c ∧ Rd w3 (some ⟨gl, 0, none⟩) k 1 (encI (bitsK n k s)) ∧ Rd w3 A3 k 1 (encI (bitsK n k s)) from ⟨H2.out.1.keeps0 hk3, H2.out.2.keeps0 hk3, hrd3⟩)
          clear hrd3 hk3 H2
          refine hK.out (fun z' => (z'.cell? ⟨gr, 0, none⟩ = some (.int .i64 (k : Int)) ∧ z'.cell? ⟨gr, 1, none⟩ = some (.slice A n c)) ∧ z'.cell? ⟨ga, o + i, none⟩ = some (.string (strB s))) _ _ (fun _ h => h) ⟨⟨H3.out.1.c0, H3.out.1.c1⟩, HC.out _ H3.out.1.2.2.2⟩ (fun hS => ?_)
          refine seq_do rfl (by kernel_rfl) (by rfl) (fun K hK => ?_)
          go_simp
          refine (ints_same (bitsK n k s) k (bitsK_len _ _ _) (by have := HNK.out.2; omega) _ _ _ _ w3 H3.out.2.1 H3.out.2.2).mono ?_
          rintro e w4 ⟨rfl, hk4⟩
          have H4 := Lib.hid (H3.out.1.keeps0 hk4)
          clear hk4 H3
          refine hK.out (fun z' => (z'.cell? ⟨gr, 0, none⟩ = some (.int .i64 (k : Int)) ∧ z'.cell? ⟨gr, 1, none⟩ = some (.slice A n c)) ∧ z'.cell? ⟨ga, o + i, none⟩ = some (.string (strB s))) _ _ (fun _ h => h) ⟨⟨H4.out.c0, H4.out.c1⟩, HC.out _ H4.out.2.2.2⟩ (fun hS => ?_)
          refine seq_take (v := ?_) rfl (by kernel_rfl) (by kernel_rfl) (by kernel_rfl) (Or.inl ⟨by rfl, fun w' hSw => ?_⟩) (by assumption) ?_
          rotate_left
          · go_simp
            with_reducible rfl
          simp only [Act.put, List.setIfInBounds_toArray, List.set_cons_zero, List.set_cons_succ]
          refine seq_take (v := ?_) rfl (by kernel_rfl) (by kernel_rfl) (by kernel_rfl) (Or.inl ⟨by rfl, fun w' hSw => ?_⟩) (by assumption) ?_
          rotate_left
          · go_simp
            with_reducible rfl
          simp only [Act.put, List.setIfInBounds_toArray, List.set_cons_zero, List.set_cons_succ]
          refine seq_take (v := ?_) rfl (by kernel_rfl) (by kernel_rfl) (by kernel_rfl) (Or.inl ⟨by rfl, fun w' hSw => ?_⟩) (by assumption) ?_
          rotate_left
          · go_simp
            with_reducible rfl
          simp only [Act.put, List.setIfInBounds_toArray, List.set_cons_zero, List.set_cons_succ]
          refine seq_take (v := ?_) rfl (by kernel_rfl) (by kernel_rfl) (by kernel_rfl) (Or.inl ⟨by rfl, fun w' hSw => ?_⟩) (by assumption) ?_
          rotate_left
          · go_simp
            with_reducible rfl
          simp only [Act.put, List.setIfInBounds_toArray, List.set_cons_zero, List.set_cons_succ]
          refine seq_take (v := ?_) rfl (by kernel_rfl) (by kernel_rfl) (by kernel_rfl) (Or.inl ⟨by rfl, fun w' hSw => ?_⟩) (by assumption) ?_
          rotate_left
          · go_simp
            with_reducible rfl
          simp only [Act.put, List.setIfInBounds_toArray, List.set_cons_zero, List.set_cons_succ]
          refine seq_take (v := ?_) rfl (by kernel_rfl) (by kernel_rfl) (by kernel_rfl) (Or.inl ⟨by rfl, fun w' hSw => ?_⟩) (by assumption) ?_
          rotate_left
          · go_simp
            with_reducible rfl
          simp only [Act.put, List.setIfInBounds_toArray, List.set_cons_zero, List.set_cons_succ]
          refine seq_take (v := ?_) rfl (by kernel_rfl) (by kernel_rfl) (by kernel_rfl) (Or.inl ⟨by rfl, fun w' hSw => ?_⟩) (by assumption) ?_
          rotate_left
          · go_simp
            with_reducible rfl
          simp only [Act.put, List.setIfInBounds_toArray, List.set_cons_zero, List.set_cons_succ]
          iterate 1 (refine seq_later ?_; simp only [List.cons_append, List.nil_append])
          refine seq_take (v := ?_) rfl (by kernel_rfl) (by kernel_rfl) (by kernel_rfl) (Or.inl ⟨by rfl, fun w' hSw => ?_⟩) (by assumption) ?_
          rotate_left
          · go_simp
            with_reducible rfl
          simp only [Act.put, List.setIfInBounds_toArray, List.set_cons_zero, List.set_cons_succ]
          refine seq_take (v := ?_) rfl (by kernel_rfl) (by kernel_rfl) (by kernel_rfl) (Or.inl ⟨by rfl, fun w' hSw => ?_⟩) (by assumption) ?_
          rotate_left
          · go_simp
            with_reducible rfl
          simp only [Act.put, List.setIfInBounds_toArray, List.set_cons_zero, List.set_cons_succ]
          refine seq_take (v := ?_) rfl (by kernel_rfl) (by kernel_rfl) (by kernel_rfl) (Or.inl ⟨by rfl, fun w' hSw => ?_⟩) (by assumption) ?_
          rotate_left
          · go_simp
            with_reducible rfl
          simp only [Act.put, List.setIfInBounds_toArray, List.set_cons_zero, List.set_cons_succ]
          refine seq_take (v := ?_) rfl (by kernel_rfl) (by kernel_rfl) (by kernel_rfl) (Or.inl ⟨by rfl, fun w' hSw => ?_⟩) (by assumption) ?_
          rotate_left
          · go_simp
            with_reducible rfl
          simp only [Act.put, List.setIfInBounds_toArray, List.set_cons_zero, List.set_cons_succ]
          refine seq_take (v := ?_) rfl (by kernel_rfl) (by kernel_rfl) (by kernel_rfl) (Or.inl ⟨by rfl, fun w' hSw => ?_⟩) (by assumption) ?_
          rotate_left
          · go_simp
            with_reducible rfl
          simp only [Act.put, List.setIfInBounds_toArray, List.set_cons_zero, List.set_cons_succ]
          iterate 3 (refine seq_later ?_; simp only [List.cons_append, List.nil_append])
          refine seq_do rfl (by kernel_rfl) (by rfl) (fun K hK => ?_)
          go_simp
          refine (may_any g n k A1 m bx s w4 H4.out.1 HNK.out.1 HNK.out.2 HSL.out HX.out.2.2.2).mono ?_
          rintro e w5 ⟨rfl, hk5⟩
          obtain ⟨t, htt⟩ : ∃ t, t = mayK bx (bitsK n k s) := ⟨_, rfl⟩
          rw [← htt]
          have HT2 := Lib.hid htt
          have ft : (t != t) = false := by simp
          have H5 := Lib.hid (H4.out.keeps0 hk5)
          clear hk5 H4 htt
          refine hK.out (fun z' => (z'.cell? ⟨gr, 0, none⟩ = some (.int .i64 (k : Int)) ∧ z'.cell? ⟨gr, 1, none⟩ = some (.slice A n c)) ∧ z'.cell? ⟨ga, o + i, none⟩ = some (.string (strB s))) _ _ (fun _ h => h) ⟨⟨H5.out.c0, H5.out.c1⟩, HC.out _ H5.out.2.2.2⟩ (fun hS => ?_)
          refine seq_do rfl (by kernel_rfl) (by rfl) (fun K hK => ?_)
          go_simp
          refine (rmay_any A c n k bx s w5 H5.out.2.2.1 HNK.out.1 HNK.out.2 HSL.out).mono ?_
          rintro e w6 ⟨rfl, hk6⟩
          rw [← HT2.out]
          have H6 := Lib.hid (H5.out.keeps0 hk6)
          clear hk6 H5
          refine hK.out (fun z' => (z'.cell? ⟨gr, 0, none⟩ = some (.int .i64 (k : Int)) ∧ z'.cell? ⟨gr, 1, none⟩ = some (.slice A n c)) ∧ z'.cell? ⟨ga, o + i, none⟩ = some (.string (strB s))) _ _ (fun _ h => h) ⟨⟨H6.out.c0, H6.out.c1⟩, HC.out _ H6.out.2.2.2⟩ (fun hS => ?_)
          refine seq_take (v := ?_) rfl (by kernel_rfl) (by kernel_rfl) (by kernel_rfl) (Or.inl ⟨by rfl, fun w' hSw => ?_⟩) (by assumption) ?_
          rotate_left
          · go_simp
            with_reducible rfl
          simp only [Act.put, List.setIfInBounds_toArray, List.set_cons_zero, List.set_cons_succ]
          refine seq_take (v := ?_) rfl (by kernel_rfl) (by kernel_rfl) (by kernel_rfl) (Or.inl ⟨by rfl, fun w' hSw => ?_⟩) (by assumption) ?_
          rotate_left
          · go_simp
            with_reducible rfl
          simp only [Act.put, List.setIfInBounds_toArray, List.set_cons_zero, List.set_cons_succ]
          refine seq_done (by kernel_rfl) ?_
          all_goals skip
          clear hS ft HT2
          go_upto_region 16 with fail
          by_cases hev : r = 0
          · have e1 : ((r : Int) == 0) = true := by simp [hev]
            clear hev
            have q1 := HC.out w6 H6.out.2.2.2
            go_wp2_with fail
            refine (add_any g n k A1 m bx s w6 H6.out.1 HNK.out.1 HNK.out.2 HSL.out HX.out.2.2.2).mono ?_
            rintro e w7 ⟨rfl, hf7, hk7⟩
            have H7 := Lib.hid (H6.out.added hf7 hk7 (fun a ha => (HAQ.out.2.2.1 a ha).1) HAQ.out.2.2.2 (fun a ha => (HX.out.1 a ha).1))
            clear hf7 hk7 H6 q1
            go_upto_region 18 with fail
            have HSS := Lib.hid (show (w7.cell? ⟨gr, 0, none⟩ = some (.int .i64 (k : Int)) ∧ w7.cell? ⟨gr, 1, none⟩ = some (.slice A n c)) ∧ w7.cell? ⟨ga, o + i, none⟩ = some (.string (strB s)) from ⟨⟨H7.out.c0, H7.out.c1⟩, HC.out _ H7.out.2.2.2⟩)
            refine seqz_start (by kernel_rfl) (fun z' => (z'.cell? ⟨gr, 0, none⟩ = some (.int .i64 (k : Int)) ∧ z'.cell? ⟨gr, 1, none⟩ = some (.slice A n c)) ∧ z'.cell? ⟨ga, o + i, none⟩ = some (.string (strB s))) 6 7 [0, 1, 2, 3, 4, 5, 6] rfl (HSS.out) (fun hS => ?_)
            have H7d := Lib.hid (H7.out.keeps0 (Keeps.refl [] w7).drew)
            clear H7 HSS
            generalize w7.drew = w8 at H7d hS ⊢
            refine seqz_take (v := ?_) rfl (by kernel_rfl) (by kernel_rfl) (by kernel_rfl) (by kernel_rfl) (by kernel_rfl) (by decide) (Or.inl ⟨by rfl, fun w' hSw => ?_⟩) (by assumption) ?_
            rotate_left
            · go_simp
              with_reducible rfl
            simp only [Act.put, List.setIfInBounds_toArray, List.set_cons_zero, List.set_cons_succ]
            refine seqz_take (v := ?_) rfl (by kernel_rfl) (by kernel_rfl) (by kernel_rfl) (by kernel_rfl) (by kernel_rfl) (by decide) (Or.inl ⟨by rfl, fun w' hSw => ?_⟩) (by assumption) ?_
            rotate_left
            · go_simp
              with_reducible rfl
            simp only [Act.put, List.setIfInBounds_toArray, List.set_cons_zero, List.set_cons_succ]
            refine seqz_take (v := ?_) rfl (by kernel_rfl) (by kernel_rfl) (by kernel_rfl) (by kernel_rfl) (by kernel_rfl) (by decide) (Or.inl ⟨by rfl, fun w' hSw => ?_⟩) (by assumption) ?_
            rotate_left
            · go_simp
              with_reducible rfl
            simp only [Act.put, List.setIfInBounds_toArray, List.set_cons_zero, List.set_cons_succ]
            refine seqz_take (v := ?_) rfl (by kernel_rfl) (by kernel_rfl) (by kernel_rfl) (by kernel_rfl) (by kernel_rfl) (by decide) (Or.inl ⟨by rfl, fun w' hSw => ?_⟩) (by assumption) ?_
            rotate_left
            · go_simp
              with_reducible rfl
            simp only [Act.put, List.setIfInBounds_toArray, List.set_cons_zero, List.set_cons_succ]
            refine seqz_take (v := ?_) rfl (by kernel_rfl) (by kernel_rfl) (by kernel_rfl) (by kernel_rfl) (by kernel_rfl) (by decide) (Or.inl ⟨by rfl, fun w' hSw => ?_⟩) (by assumption) ?_
            rotate_left
            · go_simp
              with_reducible rfl
            simp only [Act.put, List.setIfInBounds_toArray, List.set_cons_zero, List.set_cons_succ]
            refine seqz_do rfl (by kernel_rfl) (by rfl) (fun K hK => ?_)
            go_simp
            refine (radd_any A c n k bx s w8 H7d.out.2.2.1 HNK.out.1 HNK.out.2 HSL.out HX.out.2.2.2).mono ?_
            rintro e w9 ⟨A9, c9, rfl, hrd9, hk9, hfr9⟩
            have H9 := Lib.hid (show RunS w w9 g n k A1 m gr (orAll bx (bitsK n k s)) bx A c ∧ Rd w9 A9 n 1 (bitsL n (orAll bx (bitsK n k s))) ∧ (∀ a, A9 = some a → a.block ∉ blk A1 ∧ a.block ≠ gr) from by
              refine ⟨H7d.out.keeps0 hk9, hrd9, fun a ha => ⟨fun hm => ?_, ?_⟩⟩
              · obtain ⟨a1, e1, e2⟩ := mem_blk.1 hm
                have h1 := hfr9 a ha
                have h2 := H7d.out.1.2.1.lt a1 e1
                omega
              · have h1 := hfr9 a ha
                have h2 := lt_of_block H7d.out.2.1
                omega)
            clear hrd9 hk9 hfr9 H7d
            refine hK.out (fun z' => (z'.cell? ⟨gr, 0, none⟩ = some (.int .i64 (k : Int)) ∧ z'.cell? ⟨gr, 1, none⟩ = some (.slice A n c)) ∧ z'.cell? ⟨ga, o + i, none⟩ = some (.string (strB s))) _ _ (fun _ h => h) ⟨⟨H9.out.1.c0, H9.out.1.c1⟩, HC.out _ H9.out.1.2.2.2⟩ (fun hS => ?_)
            refine seqz_last rfl (by kernel_rfl) (by rfl) (by kernel_rfl) ?_
            all_goals skip
            clear hS qa qb qc
            have c0 := H9.out.1.c0
            have c1 := H9.out.1.c1
            have fz : ∀ j, w9.frozen? ⟨gr, j, none⟩ = false := fun j => frozen_of_row w9 _ j _ _ H9.out.1.2.1
            go_wp2_with fail
            go_roundw
            case rel =>
              refine ⟨i + 1, orAll bx (bitsK n k s), A9, c9, by go_num, HIX.out, H9.out.1.stored HAQ.out.2.1 (fun a ha => (HAQ.out.2.2.1 a ha).2) HAQ.out.1 H9.out.2.1 (fun a ha => (H9.out.2.2 a ha).2), H9.out.2.2, by rw [orAll_len]; exact HX.out.2.1, or_spare HNK.out.1.1 HX.out.2.1 HMN.out.1 HX.out.2.2.1⟩
            case measure => have := HIX.out; simp [intOf]; omega
          · have e1 : ((r : Int) == 0) = false := by simp [hev]
            clear hev qa qb qc
            go_wp2_with fail
            go_roundw
            case rel => exact ⟨i + 1, bx, A, c, by go_num, HIX.out, H6.out, HX.out.1, HX.out.2.1, HX.out.2.2.1⟩
            case measure => have := HIX.out; simp [intOf]; omega
        · rcases (show (¬ (i : Int) < ((xs.length : Nat) : Int)) ∨ ((i : Int) < ((xs.length : Nat) : Int) ∧ ¬ (i : Int) < 12) from by omega) with hj1 | ⟨hj1, hj2⟩
          all_goals
            clear hgo
            go_upto_region 19 with fail
            have hq0 : ∀ z', Keeps [] wr z' → z'.cell? ⟨gr, 0, none⟩ = some (.int .i64 (k : Int)) := fun z' hz => hz.cell hinv.out.1.c0 (by simp)
            have hq1 : ∀ z', Keeps [] wr z' → z'.cell? ⟨gr, 1, none⟩ = some (.slice A n c) := fun z' hz => hz.cell hinv.out.1.c1 (by simp)
            refine seq_start (by kernel_rfl) (fun z' => Keeps [] wr z') 18 [0, 1, 2, 3, 4, 5, 6, 7, 8, 9, 10, 11, 12, 13, 14, 15, 16, 17] rfl ((Keeps.refl [] wr).drew) (fun hS => ?_)
            have HI := Lib.hid (hinv.out.1.keeps0 (Keeps.refl [] wr).drew)
            have HX := Lib.hid (show bx.length = m ∧ (∀ t, n ≤ t → t < 8 * m → hasBit bx t = false) ∧ bx.length ≤ 1048576 ∧ bx.length = (n + 7) / 8 ∧ (∀ t, n ≤ t → t < 8 * bx.length → hasBit bx t = false) from ⟨hinv.out.2.2.1, hinv.out.2.2.2, by rw [hinv.out.2.2.1]; exact HMN.out.2, by rw [hinv.out.2.2.1]; exact HM.out, by rw [hinv.out.2.2.1]; exact hinv.out.2.2.2⟩)
            have HK0 := Lib.hid (show Keeps [] wr wr.drew from (Keeps.refl [] wr).drew)
            clear hinv
            generalize wr.drew = V1 at HI HK0 hS ⊢
            refine seq_take (v := ?_) rfl (by kernel_rfl) (by kernel_rfl) (by kernel_rfl) (Or.inl ⟨by rfl, fun w' hSw => ?_⟩) (by assumption) ?_
            rotate_left
            · go_simp
              with_reducible rfl
            simp only [Act.put, List.setIfInBounds_toArray, List.set_cons_zero, List.set_cons_succ]
            iterate 1 (refine seq_later ?_; simp only [List.cons_append, List.nil_append])
            refine seq_take (v := ?_) rfl (by kernel_rfl) (by kernel_rfl) (by kernel_rfl) (Or.inl ⟨by rfl, fun w' hSw => ?_⟩) (by assumption) ?_
            rotate_left
            · go_simp
              with_reducible rfl
            simp only [Act.put, List.setIfInBounds_toArray, List.set_cons_zero, List.set_cons_succ]
            iterate 15 (refine seq_later ?_; simp only [List.cons_append, List.nil_append])
            refine seq_do rfl (by kernel_rfl) (by rfl) (fun K hK => ?_)
            go_simp
            refine (full_any g n k A1 m bx V1 HI.out.1 HX.out.2.2.1).mono ?_
            rintro e w2 ⟨rfl, rfl⟩
            clear hq0 hq1
            have hq0 : ∀ z', Keeps [] V1 z' → z'.cell? ⟨gr, 0, none⟩ = some (.int .i64 (k : Int)) := fun z' hz => hz.cell HI.out.c0 (by simp)
            have hq1 : ∀ z', Keeps [] V1 z' → z'.cell? ⟨gr, 1, none⟩ = some (.slice A n c) := fun z' hz => hz.cell HI.out.c1 (by simp)
            refine hK.out (fun z' => Keeps [] V1 z') _ _ (fun _ h => HK0.out.trans h (by simp)) (Keeps.refl [] V1) (fun hS => ?_)
            refine seq_do rfl (by kernel_rfl) (by rfl) (fun K hK => ?_)
            go_simp
            have hbs : n = ((List.range n).map (hasBit bx)).length := by simp
            have hbl : bitsL n bx = ((List.range n).map (hasBit bx)).map Value.bool := by unfold bitsL; rw [List.map_map]; rfl
            obtain ⟨bs, hbs0⟩ : ∃ bs, bs = (List.range n).map (hasBit bx) := ⟨_, rfl⟩
            rw [← hbs0] at hbs hbl
            have HRF := rfull_gen k A c bs V1 (by rw [← hbs]; exact HNK.out.1.2) (by rw [← hbs, ← hbl]; exact HI.out.2.2.1)
            rw [← hbs] at HRF
            refine HRF.mono ?_
            rintro e w3 ⟨rfl, hk3⟩
            have hfc : cntL bs = fullK bx := by
              rw [hbs0]
              exact (fullK_bits (m := m) HX.out.1 HMN.out.1 HX.out.2.1).symm
            rw [hfc]
            have H3 := Lib.hid (HI.out.keeps0 hk3)
            have HK3 := Lib.hid hk3
            clear hbs hbl hbs0 hfc HRF hk3 HI hq0 hq1
            have hq0 : ∀ z', Keeps [] w3 z' → z'.cell? ⟨gr, 0, none⟩ = some (.int .i64 (k : Int)) := fun z' hz => hz.cell H3.out.c0 (by simp)
            have hq1 : ∀ z', Keeps [] w3 z' → z'.cell? ⟨gr, 1, none⟩ = some (.slice A n c) := fun z' hz => hz.cell H3.out.c1 (by simp)
            refine hK.out (fun z' => Keeps [] w3 z') _ _ (fun _ h => HK3.out.trans h (by simp)) (Keeps.refl [] w3) (fun hS => ?_)
            refine seq_take (v := ?_) rfl (by kernel_rfl) (by kernel_rfl) (by kernel_rfl) (Or.inl ⟨by rfl, fun w' hSw => ?_⟩) (by assumption) ?_
            rotate_left
            · go_simp
              with_reducible rfl
            simp only [Act.put, List.setIfInBounds_toArray, List.set_cons_zero, List.set_cons_succ]
            refine seq_take (v := ?_) rfl (by kernel_rfl) (by kernel_rfl) (by kernel_rfl) (Or.inl ⟨by rfl, fun w' hSw => ?_⟩) (by assumption) ?_
            rotate_left
            · go_simp
              with_reducible rfl
            simp only [Act.put, List.setIfInBounds_toArray, List.set_cons_zero, List.set_cons_succ]
            refine seq_take (v := ?_) rfl (by kernel_rfl) (by kernel_rfl) (by kernel_rfl) (Or.inl ⟨by rfl, fun w' hSw => ?_⟩) (by assumption) ?_
            rotate_left
            · go_simp
              with_reducible rfl
            simp only [Act.put, List.setIfInBounds_toArray, List.set_cons_zero, List.set_cons_succ]
            iterate 2 (refine seq_later ?_; simp only [List.cons_append, List.nil_append])
            refine seq_take (v := ?_) rfl (by kernel_rfl) (by kernel_rfl) (by kernel_rfl) (Or.inl ⟨by rfl, fun w' hSw => ?_⟩) (by assumption) ?_
            rotate_left
            · go_simp
              with_reducible rfl
            simp only [Act.put, List.setIfInBounds_toArray, List.set_cons_zero, List.set_cons_succ]
            iterate 8 (refine seq_later ?_; simp only [List.cons_append, List.nil_append])
            refine seq_do rfl (by kernel_rfl) (by rfl) (fun K hK => ?_)
            go_simp
            refine (enc_any g n k A1 m bx w3 H3.out.1 HNK.out.1.2 HNK.out.2.2 HX.out.2.2.1).mono ?_
            rintro e w4 ⟨A6, c6, l6, hl6, rfl, ho6, hn6, hk4⟩
            have F1 := conv_keeps (P := Tryd.prog) (dst := 9) Tryd.underlying44 Tryd.underlying5 Tryd.underlying9 ho6.rd c6
            have HL6 := Lib.hid hl6.out
            have H4 := Lib.hid (H3.out.keeps0 hk4)
            have HK4 := Lib.hid hk4
            clear hl6 ho6 hn6 hk4 H3 hq0 hq1
            have hq0 : ∀ z', Keeps [] w4 z' → z'.cell? ⟨gr, 0, none⟩ = some (.int .i64 (k : Int)) := fun z' hz => hz.cell H4.out.c0 (by simp)
            have hq1 : ∀ z', Keeps [] w4 z' → z'.cell? ⟨gr, 1, none⟩ = some (.slice A n c) := fun z' hz => hz.cell H4.out.c1 (by simp)
            refine hK.out (fun z' => Keeps [] w4 z') _ _ (fun _ h => HK4.out.trans h (by simp)) (Keeps.refl [] w4) (fun hS => ?_)
            refine seq_take (v := ?_) rfl (by kernel_rfl) (by kernel_rfl) (by kernel_rfl) (Or.inl ⟨by rfl, fun w' hSw => ?_⟩) (by assumption) ?_
            rotate_left
            · go_simp
              with_reducible rfl
            simp only [Act.put, List.setIfInBounds_toArray, List.set_cons_zero, List.set_cons_succ]
            refine seq_do rfl (by kernel_rfl) (by rfl) (fun K hK => ?_)
            go_simp
            refine (renc_any A c n k bx w4 H4.out.2.2.1 HNK.out.1.2 HNK.out.2.2 HX.out.2.2.2.1 HX.out.2.2.2.2).mono ?_
            rintro e w5 ⟨A7, c7, l7, hl7, rfl, ho7, hn7, hk5⟩
            obtain rfl : l7 = l6 := hl7.out.trans HL6.out.symm
            have F2 := conv_keeps (P := Tryd.prog) (dst := 9) Tryd.underlying44 Tryd.underlying5 Tryd.underlying9 ho7.rd c7
            have H5 := Lib.hid (H4.out.2.2.2.trans hk5 (by simp))
            have HK5 := Lib.hid hk5
            clear hl7 ho7 hn7 hk5 H4 F1 hq0 hq1
            refine hK.out (fun z' => Keeps [] w5 z') _ _ (fun _ h => HK5.out.trans h (by simp)) (Keeps.refl [] w5) (fun hS => ?_)
            refine seq_take (v := ?_) rfl (by kernel_rfl) (by kernel_rfl) (by kernel_rfl) (Or.inl ⟨by rfl, fun w' hSw => ?_⟩) (by assumption) ?_
            rotate_left
            · go_simp
              with_reducible rfl
            simp only [Act.put, List.setIfInBounds_toArray, List.set_cons_zero, List.set_cons_succ]
            refine seq_take (v := ?_) rfl (by kernel_rfl) (by kernel_rfl) (by kernel_rfl) (Or.inl ⟨by rfl, fun w' hSw => ?_⟩) (by assumption) ?_
            rotate_left
            · go_simp
              with_reducible rfl
            simp only [Act.put, List.setIfInBounds_toArray, List.set_cons_zero, List.set_cons_succ]
            refine seq_take (v := ?_) rfl (by kernel_rfl) (by kernel_rfl) (by kernel_rfl) (Or.inl ⟨by rfl, fun w' hSw => ?_⟩) (by assumption) ?_
            rotate_left
            · go_simp
              with_reducible rfl
            simp only [Act.put, List.setIfInBounds_toArray, List.set_cons_zero, List.set_cons_succ]
            refine seq_take (v := ?_) rfl (by kernel_rfl) (by kernel_rfl) (by kernel_rfl) (Or.inl ⟨by rfl, fun w' hSw => ?_⟩) (by assumption) ?_
            rotate_left
            · go_simp
              with_reducible rfl
            simp only [Act.put, List.setIfInBounds_toArray, List.set_cons_zero, List.set_cons_succ]
            refine seq_do rfl (by kernel_rfl) (by rfl) (fun K hK => ?_)
            go_simp
            refine (bsure_any w5).mono ?_
            rintro e w6 ⟨rfl, hk6⟩
            have H6 := Lib.hid (H5.out.trans hk6 (by simp))
            have HK6 := Lib.hid hk6
            clear hk6
            refine hK.out (fun z' => Keeps [] w6 z') _ _ (fun _ h => HK6.out.trans h (by simp)) (Keeps.refl [] w6) (fun hS => ?_)
            refine seq_take (v := ?_) rfl (by kernel_rfl) (by kernel_rfl) (by kernel_rfl) (Or.inl ⟨by rfl, fun w' hSw => ?_⟩) (by assumption) ?_
            rotate_left
            · go_simp
              with_reducible rfl
            simp only [Act.put, List.setIfInBounds_toArray, List.set_cons_zero, List.set_cons_succ]
            refine seq_take (v := ?_) rfl (by kernel_rfl) (by kernel_rfl) (by kernel_rfl) (Or.inl ⟨by rfl, fun w' hSw => ?_⟩) (by assumption) ?_
            rotate_left
            · go_simp
              with_reducible rfl
            simp only [Act.put, List.setIfInBounds_toArray, List.set_cons_zero, List.set_cons_succ]
            refine seq_done (by kernel_rfl) ?_
            all_goals skip
            go_wp2_with fail
            go_ret
            exact ⟨rfl, H6.out⟩
  · have HF := Lib.hid hfit
    clear hfit
    go_enter Tryd.func4, Tryd.ntmps4
    go_wp2_with fail
    refine (bnew_no x y _ HF.out).mono ?_
    rintro e w1 ⟨rfl, hk1⟩
    have c0 : w1.cell? ⟨w.heap.size, 0, none⟩ = some (.int .i64 x) := hk1.cell (by simp) (by simp)
    have c1 : w1.cell? ⟨w.heap.size, 1, none⟩ = some (.int .i64 y) := hk1.cell (by simp) (by simp)
    have H1 := Lib.hid (((Keeps.refl [] w).alloc _).trans hk1 (by simp))
    clear hk1
    rw [errV_other (by decide)]
    go_wp2_with fail
    refine (rnew_no x y _ HF.out).mono ?_
    rintro e w2 ⟨rfl, hk2⟩
    have H3 := Lib.hid ((H1.out.trans hk2 (by simp)).alloc (.cells #[.int .i64 0, .slice none 0 0] 31))
    clear hk2 H1 c0 c1
    go_wp2_with fail
    generalize w2.alloc (.cells #[.int .i64 0, .slice none 0 0] 31) = w3 at H3 ⊢
    refine (dec_any BA b bc w3 H0.out.1.1 H0.out.1.2 (H0.out.2.1.keeps0 H3.out) (fun a ha h0 => Nat.lt_of_lt_of_le (H0.out.2.2 a ha h0) H3.out.size)).mono ?_
    rintro e w4 hp
    have HP := Lib.hid hp
    rcases hp with ⟨hok, g2, Af, cf, rfl, hf, _, _, hk4⟩ | ⟨hno, rfl, hk4⟩
    case' _ =>
      have HOK := Lib.hid hok
      have H4 := Lib.hid (And.intro hf (H3.out.trans hk4 (by simp)))
      clear HP hok hf hk4 H3
      go_wp2_with fail
      refine (rdec_any BA b bc w4 H0.out.1.1 H0.out.1.2 (H0.out.2.1.keeps0 H4.out.2) (fun a ha h0 => Nat.lt_of_lt_of_le (H0.out.2.2 a ha h0) H4.out.2.size)).mono ?_
      rintro e w5 hp
      rcases hp with ⟨_, gb2, rfl, _, hrow, hk5⟩ | ⟨hno, _⟩
      rotate_left
      · exact absurd HOK.out hno
      obtain ⟨n2, hn2⟩ : ∃ n2, n2 = nK b := ⟨_, rfl⟩
      obtain ⟨k2, hk2⟩ : ∃ k2, k2 = kK b := ⟨_, rfl⟩
      obtain ⟨x2, hx2⟩ : ∃ x2, x2 = xK b := ⟨_, rfl⟩
      have H5 := Lib.hid (show Fm w5 g2 n2 k2 Af cf x2 ∧ w5.heap[gb2]? = some (.cells (bitsL n2 x2).toArray 4 (0, 0)) ∧ Keeps [] w w5 from ⟨by rw [hn2, hk2, hx2]; exact H4.out.1.keeps0 hk5, by rw [hn2, hx2]; exact hrow, H4.out.2.trans hk5 (by simp)⟩)
      rw [← hn2, ← hk2]
      have HN2 := Lib.hid (And.intro hn2 (And.intro hk2 hx2))
      clear hrow hk5 H4 hn2 hk2 hx2
      obtain ⟨gr2, hgr2⟩ : ∃ gr2, gr2 = w5.heap.size := ⟨_, rfl⟩
      have HG2 := Lib.hid hgr2
      clear hgr2
      have H6 := Lib.hid (show Fm (w5.alloc (.cells #[.int .i64 (k2 : Int), .slice (some ⟨gb2, 0, none⟩) n2 n2] 31)) g2 n2 k2 Af cf x2 ∧ (w5.alloc (.cells #[.int .i64 (k2 : Int), .slice (some ⟨gb2, 0, none⟩) n2 n2] 31)).heap[gb2]? = some (.cells (bitsL n2 x2).toArray 4 (0, 0)) ∧ Keeps [] w (w5.alloc (.cells #[.int .i64 (k2 : Int), .slice (some ⟨gb2, 0, none⟩) n2 n2] 31)) ∧ (w5.alloc (.cells #[.int .i64 (k2 : Int), .slice (some ⟨gb2, 0, none⟩) n2 n2] 31)).heap[gr2]? = some (.cells #[.int .i64 (k2 : Int), .slice (some ⟨gb2, 0, none⟩) n2 n2] 31 (0, 0)) from by
        have hka := (Keeps.refl [] w5).alloc (.cells #[.int .i64 (k2 : Int), .slice (some ⟨gb2, 0, none⟩) n2 n2] 31)
        exact ⟨H5.out.1.keeps0 hka, (hka.block gb2 (lt_of_block H5.out.2.1) (by simp)).trans H5.out.2.1, H5.out.2.2.trans hka (by simp), by rw [HG2.out]; exact heap_alloc_new _ _⟩)
      clear H5
      go_upto_region 5 with fail
      rw [← HG2.out]
      generalize w5.alloc (.cells #[.int .i64 (k2 : Int), .slice (some ⟨gb2, 0, none⟩) n2 n2] 31) = w6 at H6 ⊢
      have HFIT := Lib.hid (show n2 ≤ 1048576 ∧ k2 ≤ 16 ∧ x2.length ≤ 1048576 ∧ encK n2 k2 x2 = b ∧ x2.length = (n2 + 7) / 8 ∧ (∀ t, n2 ≤ t → t < 8 * x2.length → hasBit x2 t = false) from by
        have h1 := HOK.out.2.1
        have h2 := HOK.out.2.2.1
        have h3 := HOK.out.2.2.2
        rw [← HN2.out.1, ← HN2.out.2.1] at h1
        rw [← HN2.out.1, ← HN2.out.2.2] at h2
        rw [← HN2.out.1, ← HN2.out.2.2] at h3
        unfold FitB at h1
        refine ⟨by omega, by omega, by omega, ?_, h2, fun t t1 t2 => ?_⟩
        · rw [HN2.out.1, HN2.out.2.1, HN2.out.2.2]
          exact enc_dec HOK.out
        · cases hb : hasBit x2 t with
          | false => rfl
          | true => exact absurd h3 (spare_some rfl h2 t1 (by omega) hb))
      refine seq_start (by kernel_rfl) (fun z' => Keeps [] w6 z') 30 [0, 1, 2, 3, 4, 5, 6, 7, 8, 9, 10, 11, 12, 13, 14, 15, 16, 17, 18, 19, 20, 21, 22, 23, 24, 25, 26, 27, 28, 29] rfl ((Keeps.refl [] w6).drew) (fun hS => ?_)
      have H6d := Lib.hid (show Fm w6.drew g2 n2 k2 Af cf x2 ∧ w6.drew.heap[gb2]? = some (.cells (bitsL n2 x2).toArray 4 (0, 0)) ∧ Keeps [] w w6.drew ∧ w6.drew.heap[gr2]? = some (.cells #[.int .i64 (k2 : Int), .slice (some ⟨gb2, 0, none⟩) n2 n2] 31 (0, 0)) from ⟨H6.out.1, H6.out.2.1, H6.out.2.2.1.drew, H6.out.2.2.2⟩)
      have HK6 := Lib.hid (show Keeps [] w6 w6.drew from (Keeps.refl [] w6).drew)
      clear H6
      generalize w6.drew = w7 at H6d HK6 hS ⊢
      refine seq_take (v := ?_) rfl (by kernel_rfl) (by kernel_rfl) (by kernel_rfl) (Or.inl ⟨by rfl, fun w' hSw => ?_⟩) (by assumption) ?_
      rotate_left
      · go_simp
        with_reducible rfl
      simp only [Act.put, List.setIfInBounds_toArray, List.set_cons_zero, List.set_cons_succ]
      iterate 1 (refine seq_later ?_; simp only [List.cons_append, List.nil_append])
      refine seq_take (v := ?_) rfl (by kernel_rfl) (by kernel_rfl) (by kernel_rfl) (Or.inl ⟨by rfl, fun w' hSw => ?_⟩) (by assumption) ?_
      rotate_left
      · go_simp
        with_reducible rfl
      simp only [Act.put, List.setIfInBounds_toArray, List.set_cons_zero, List.set_cons_succ]
      iterate 27 (refine seq_later ?_; simp only [List.cons_append, List.nil_append])
      refine seq_do rfl (by kernel_rfl) (by rfl) (fun K hK => ?_)
      go_simp
      refine (num_err 1 _ (HTT.out.keeps H6d.out.2.2.1 (by simp))).mono ?_
      rintro e w8 ⟨rfl, hk8⟩
      have HK8 := Lib.hid hk8
      refine hK.out (fun z' => Keeps [] w8 z') _ _ (fun _ h => (HK6.out.trans HK8.out (by simp)).trans h (by simp)) (Keeps.refl [] w8) (fun hS => ?_)
      clear hk8
      refine seq_take (v := ?_) rfl (by kernel_rfl) (by kernel_rfl) (by kernel_rfl) (Or.inl ⟨by rfl, fun w' hSw => ?_⟩) (by assumption) ?_
      rotate_left
      · go_simp
        with_reducible rfl
      simp only [Act.put, List.setIfInBounds_toArray, List.set_cons_zero, List.set_cons_succ]
      refine seq_take (v := ?_) rfl (by kernel_rfl) (by kernel_rfl) (by kernel_rfl) (Or.inl ⟨by rfl, fun w' hSw => ?_⟩) (by assumption) ?_
      rotate_left
      · go_simp
        with_reducible rfl
      simp only [Act.put, List.setIfInBounds_toArray, List.set_cons_zero, List.set_cons_succ]
      refine seq_take (v := ?_) rfl (by kernel_rfl) (by kernel_rfl) (by kernel_rfl) (Or.inl ⟨by rfl, fun w' hSw => ?_⟩) (by assumption) ?_
      rotate_left
      · go_simp
        with_reducible rfl
      simp only [Act.put, List.setIfInBounds_toArray, List.set_cons_zero, List.set_cons_succ]
      iterate 1 (refine seq_later ?_; simp only [List.cons_append, List.nil_append])
      refine seq_take (v := ?_) rfl (by kernel_rfl) (by kernel_rfl) (by kernel_rfl) (Or.inl ⟨by rfl, fun w' hSw => ?_⟩) (by assumption) ?_
      rotate_left
      · go_simp
        with_reducible rfl
      simp only [Act.put, List.setIfInBounds_toArray, List.set_cons_zero, List.set_cons_succ]
      iterate 22 (refine seq_later ?_; simp only [List.cons_append, List.nil_append])
      refine seq_do rfl (by kernel_rfl) (by rfl) (fun K hK => ?_)
      go_simp
      refine (num_nil _).mono ?_
      rintro e w9 ⟨rfl, hk9⟩
      have H9 := Lib.hid (show Fm w9 g2 n2 k2 Af cf x2 ∧ w9.heap[gb2]? = some (.cells (bitsL n2 x2).toArray 4 (0, 0)) ∧ Keeps [] w w9 ∧ w9.heap[gr2]? = some (.cells #[.int .i64 (k2 : Int), .slice (some ⟨gb2, 0, none⟩) n2 n2] 31 (0, 0)) from by
        have hk := HK8.out.trans hk9 (by simp)
        exact ⟨H6d.out.1.keeps0 hk, (hk.block _ (lt_of_block H6d.out.2.1) (by simp)).trans H6d.out.2.1, H6d.out.2.2.1.trans hk (by simp), (hk.block _ (lt_of_block H6d.out.2.2.2) (by simp)).trans H6d.out.2.2.2⟩)
      have HK9 := Lib.hid hk9
      clear H6d hk9
      refine hK.out (fun z' => Keeps [] w9 z') _ _ (fun _ h => HK9.out.trans h (by simp)) (Keeps.refl [] w9) (fun hS => ?_)
      have hq0 : ∀ z', Keeps [] w9 z' → z'.cell? ⟨gr2, 0, none⟩ = some (.int .i64 (k2 : Int)) := fun z' hz => hz.cell (by rw [cell_of_row _ _ _ _ _ _ H9.out.2.2.2]; rfl) (by simp)
      have hq1 : ∀ z', Keeps [] w9 z' → z'.cell? ⟨gr2, 1, none⟩ = some (.slice (some ⟨gb2, 0, none⟩) n2 n2) := fun z' hz => hz.cell (by rw [cell_of_row _ _ _ _ _ _ H9.out.2.2.2]; rfl) (by simp)
      refine seq_take (v := ?_) rfl (by kernel_rfl) (by kernel_rfl) (by kernel_rfl) (Or.inl ⟨by rfl, fun w' hSw => ?_⟩) (by assumption) ?_
      rotate_left
      · go_simp
        with_reducible rfl
      simp only [Act.put, List.setIfInBounds_toArray, List.set_cons_zero, List.set_cons_succ]
      refine seq_take (v := ?_) rfl (by kernel_rfl) (by kernel_rfl) (by kernel_rfl) (Or.inl ⟨by rfl, fun w' hSw => ?_⟩) (by assumption) ?_
      rotate_left
      · go_simp
        with_reducible rfl
      simp only [Act.put, List.setIfInBounds_toArray, List.set_cons_zero, List.set_cons_succ]
      refine seq_take (v := ?_) rfl (by kernel_rfl) (by kernel_rfl) (by kernel_rfl) (Or.inl ⟨by rfl, fun w' hSw => ?_⟩) (by assumption) ?_
      rotate_left
      · go_simp
        with_reducible rfl
      simp only [Act.put, List.setIfInBounds_toArray, List.set_cons_zero, List.set_cons_succ]
      refine seq_take (v := ?_) rfl (by kernel_rfl) (by kernel_rfl) (by kernel_rfl) (Or.inl ⟨by rfl, fun w' hSw => ?_⟩) (by assumption) ?_
      rotate_left
      · go_simp
        with_reducible rfl
      simp only [Act.put, List.setIfInBounds_toArray, List.set_cons_zero, List.set_cons_succ]
      refine seq_take (v := ?_) rfl (by kernel_rfl) (by kernel_rfl) (by kernel_rfl) (Or.inl ⟨by rfl, fun w' hSw => ?_⟩) (by assumption) ?_
      rotate_left
      · go_simp
        with_reducible rfl
      simp only [Act.put, List.setIfInBounds_toArray, List.set_cons_zero, List.set_cons_succ]
      refine seq_take (v := ?_) rfl (by kernel_rfl) (by kernel_rfl) (by kernel_rfl) (Or.inl ⟨by rfl, fun w' hSw => ?_⟩) (by assumption) ?_
      rotate_left
      · go_simp
        with_reducible rfl
      simp only [Act.put, List.setIfInBounds_toArray, List.set_cons_zero, List.set_cons_succ]
      refine seq_take (v := ?_) rfl (by kernel_rfl) (by kernel_rfl) (by kernel_rfl) (Or.inl ⟨by rfl, fun w' hSw => ?_⟩) (by assumption) ?_
      rotate_left
      · go_simp
        with_reducible rfl
      simp only [Act.put, List.setIfInBounds_toArray, List.set_cons_zero, List.set_cons_succ]
      refine seq_take (v := ?_) rfl (by kernel_rfl) (by kernel_rfl) (by kernel_rfl) (Or.inl ⟨by rfl, fun w' hSw => ?_⟩) (by assumption) ?_
      rotate_left
      · go_simp
        with_reducible rfl
      simp only [Act.put, List.setIfInBounds_toArray, List.set_cons_zero, List.set_cons_succ]
      refine seq_take (v := ?_) rfl (by kernel_rfl) (by kernel_rfl) (by kernel_rfl) (Or.inl ⟨by rfl, fun w' hSw => ?_⟩) (by assumption) ?_
      rotate_left
      · go_simp
        with_reducible rfl
      simp only [Act.put, List.setIfInBounds_toArray, List.set_cons_zero, List.set_cons_succ]
      refine seq_take (v := ?_) rfl (by kernel_rfl) (by kernel_rfl) (by kernel_rfl) (Or.inl ⟨by rfl, fun w' hSw => ?_⟩) (by assumption) ?_
      rotate_left
      · go_simp
        with_reducible rfl
      simp only [Act.put, List.setIfInBounds_toArray, List.set_cons_zero, List.set_cons_succ]
      refine seq_take (v := ?_) rfl (by kernel_rfl) (by kernel_rfl) (by kernel_rfl) (Or.inl ⟨by rfl, fun w' hSw => ?_⟩) (by assumption) ?_
      rotate_left
      · go_simp
        with_reducible rfl
      simp only [Act.put, List.setIfInBounds_toArray, List.set_cons_zero, List.set_cons_succ]
      refine seq_take (v := ?_) rfl (by kernel_rfl) (by kernel_rfl) (by kernel_rfl) (Or.inl ⟨by rfl, fun w' hSw => ?_⟩) (by assumption) ?_
      rotate_left
      · go_simp
        with_reducible rfl
      simp only [Act.put, List.setIfInBounds_toArray, List.set_cons_zero, List.set_cons_succ]
      refine seq_take (v := ?_) rfl (by kernel_rfl) (by kernel_rfl) (by kernel_rfl) (Or.inl ⟨by rfl, fun w' hSw => ?_⟩) (by assumption) ?_
      rotate_left
      · go_simp
        with_reducible rfl
      simp only [Act.put, List.setIfInBounds_toArray, List.set_cons_zero, List.set_cons_succ]
      refine seq_take (v := ?_) rfl (by kernel_rfl) (by kernel_rfl) (by kernel_rfl) (Or.inl ⟨by rfl, fun w' hSw => ?_⟩) (by assumption) ?_
      rotate_left
      · go_simp
        with_reducible rfl
      simp only [Act.put, List.setIfInBounds_toArray, List.set_cons_zero, List.set_cons_succ]
      iterate 2 (refine seq_later ?_; simp only [List.cons_append, List.nil_append])
      refine seq_take (v := ?_) rfl (by kernel_rfl) (by kernel_rfl) (by kernel_rfl) (Or.inl ⟨by rfl, fun w' hSw => ?_⟩) (by assumption) ?_
      rotate_left
      · go_simp
        with_reducible rfl
      simp only [Act.put, List.setIfInBounds_toArray, List.set_cons_zero, List.set_cons_succ]
      iterate 5 (refine seq_later ?_; simp only [List.cons_append, List.nil_append])
      refine seq_do rfl (by kernel_rfl) (by rfl) (fun K hK => ?_)
      go_simp
      refine (enc_any g2 n2 k2 Af cf x2 _ H9.out.1 HFIT.out.1 HFIT.out.2.1 HFIT.out.2.2.1).mono ?_
      rintro e w10 ⟨A6, c6, l6, hl6, rfl, ho6, hn6, hk10⟩
      have F1 := conv_keeps (P := Tryd.prog) (dst := 9) Tryd.underlying44 Tryd.underlying5 Tryd.underlying9 ho6.rd c6
      have HL6 := Lib.hid hl6.out
      have H10 := Lib.hid (show w10.heap[gb2]? = some (.cells (bitsL n2 x2).toArray 4 (0, 0)) ∧ Keeps [] w w10 from ⟨(hk10.block _ (lt_of_block H9.out.2.1) (by simp)).trans H9.out.2.1, H9.out.2.2.1.trans hk10 (by simp)⟩)
      have HK10 := Lib.hid hk10
      clear hl6 ho6 hn6 hk10 H9 hq0 hq1
      refine hK.out (fun z' => Keeps [] w10 z') _ _ (fun _ h => HK10.out.trans h (by simp)) (Keeps.refl [] w10) (fun hS => ?_)
      refine seq_take (v := ?_) rfl (by kernel_rfl) (by kernel_rfl) (by kernel_rfl) (Or.inl ⟨by rfl, fun w' hSw => ?_⟩) (by assumption) ?_
      rotate_left
      · go_simp
        with_reducible rfl
      simp only [Act.put, List.setIfInBounds_toArray, List.set_cons_zero, List.set_cons_succ]
      refine seq_do rfl (by kernel_rfl) (by rfl) (fun K hK => ?_)
      go_simp
      refine (renc_any (some ⟨gb2, 0, none⟩) n2 n2 k2 x2 w10 (rd_row H10.out.1 (bitsL_len _ _)) HFIT.out.1 HFIT.out.2.1 HFIT.out.2.2.2.2.1 HFIT.out.2.2.2.2.2).mono ?_
      rintro e w11 ⟨A7, c7, l7, hl7, rfl, ho7, hn7, hk11⟩
      obtain rfl : l7 = l6 := hl7.out.trans HL6.out.symm
      have F2 := conv_keeps (P := Tryd.prog) (dst := 9) Tryd.underlying44 Tryd.underlying5 Tryd.underlying9 ho7.rd c7
      have HE := Lib.hid (H10.out.2.trans hk11 (by simp))
      have HK11 := Lib.hid hk11
      clear hl7 ho7 hn7 hk11 H10 F1
      refine hK.out (fun z' => Keeps [] w11 z') _ _ (fun _ h => HK11.out.trans h (by simp)) (Keeps.refl [] w11) (fun hS => ?_)
      refine seq_take (v := ?_) rfl (by kernel_rfl) (by kernel_rfl) (by kernel_rfl) (Or.inl ⟨by rfl, fun w' hSw => ?_⟩) (by assumption) ?_
      rotate_left
      · go_simp
        with_reducible rfl
      simp only [Act.put, List.setIfInBounds_toArray, List.set_cons_zero, List.set_cons_succ]
      refine seq_take (v := ?_) rfl (by kernel_rfl) (by kernel_rfl) (by kernel_rfl) (Or.inl ⟨by rfl, fun w' hSw => ?_⟩) (by assumption) ?_
      rotate_left
      · go_simp
        with_reducible rfl
      simp only [Act.put, List.setIfInBounds_toArray, List.set_cons_zero, List.set_cons_succ]
      refine seq_take (v := ?_) rfl (by kernel_rfl) (by kernel_rfl) (by kernel_rfl) (Or.inl ⟨by rfl, fun w' hSw => ?_⟩) (by assumption) ?_
      rotate_left
      · go_simp
        with_reducible rfl
      simp only [Act.put, List.setIfInBounds_toArray, List.set_cons_zero, List.set_cons_succ]
      refine seq_take (v := ?_) rfl (by kernel_rfl) (by kernel_rfl) (by kernel_rfl) (Or.inl ⟨by rfl, fun w' hSw => ?_⟩) (by assumption) ?_
      rotate_left
      · go_simp
        with_reducible rfl
      simp only [Act.put, List.setIfInBounds_toArray, List.set_cons_zero, List.set_cons_succ]
      refine seq_done (by kernel_rfl) ?_
      all_goals skip
      clear F2 hS HK6 HK8 HK9 HK10 HK11 HFIT HOK HN2 HG2
      generalize w11 = V at HE ⊢
    rotate_left
    case' _ =>
      have HNO := Lib.hid hno
      have H4 := Lib.hid (H3.out.trans hk4 (by simp))
      rw [errV_other (by decide)]
      clear HP hno hk4 H3
      go_wp2_with fail
      refine (rdec_any BA b bc w4 H0.out.1.1 H0.out.1.2 (H0.out.2.1.keeps0 H4.out) (fun a ha h0 => Nat.lt_of_lt_of_le (H0.out.2.2 a ha h0) H4.out.size)).mono ?_
      rintro e w5 hp
      rcases hp with ⟨hok, _⟩ | ⟨_, rfl, hk5⟩
      · exact absurd hok HNO.out
      have H6 := Lib.hid ((H4.out.trans hk5 (by simp)).alloc (.cells #[.int .i64 0, .slice none 0 0] 31))
      clear hk5 H4
      go_upto_region 5 with fail
      generalize w5.alloc (.cells #[.int .i64 0, .slice none 0 0] 31) = w6 at H6 ⊢
      refine seq_start (by kernel_rfl) (fun _ => True) 30 [0, 1, 2, 3, 4, 5, 6, 7, 8, 9, 10, 11, 12, 13, 14, 15, 16, 17, 18, 19, 20, 21, 22, 23, 24, 25, 26, 27, 28, 29] rfl (trivial) (fun hS => ?_)
      have H6d := Lib.hid (show Keeps [] w w6.drew from H6.out.drew)
      clear H6
      generalize w6.drew = w7 at H6d hS ⊢
      refine seq_take (v := ?_) rfl (by kernel_rfl) (by kernel_rfl) (by kernel_rfl) (Or.inl ⟨by rfl, fun w' hSw => ?_⟩) (by assumption) ?_
      rotate_left
      · go_simp
        with_reducible rfl
      simp only [Act.put, List.setIfInBounds_toArray, List.set_cons_zero, List.set_cons_succ]
      iterate 1 (refine seq_later ?_; simp only [List.cons_append, List.nil_append])
      refine seq_take (v := ?_) rfl (by kernel_rfl) (by kernel_rfl) (by kernel_rfl) (Or.inl ⟨by rfl, fun w' hSw => ?_⟩) (by assumption) ?_
      rotate_left
      · go_simp
        with_reducible rfl
      simp only [Act.put, List.setIfInBounds_toArray, List.set_cons_zero, List.set_cons_succ]
      iterate 27 (refine seq_later ?_; simp only [List.cons_append, List.nil_append])
      refine seq_do rfl (by kernel_rfl) (by rfl) (fun K hK => ?_)
      go_simp
      refine (num_err 1 _ (HTT.out.keeps H6d.out (by simp))).mono ?_
      rintro e w8 ⟨rfl, hk8⟩
      have H8 := Lib.hid (H6d.out.trans hk8 (by simp))
      refine hK.out (fun _ => True) _ _ (fun _ _ => trivial) trivial (fun hS => ?_)
      clear hk8 H6d
      refine seq_take (v := ?_) rfl (by kernel_rfl) (by kernel_rfl) (by kernel_rfl) (Or.inl ⟨by rfl, fun w' hSw => ?_⟩) (by assumption) ?_
      rotate_left
      · go_simp
        with_reducible rfl
      simp only [Act.put, List.setIfInBounds_toArray, List.set_cons_zero, List.set_cons_succ]
      refine seq_take (v := ?_) rfl (by kernel_rfl) (by kernel_rfl) (by kernel_rfl) (Or.inl ⟨by rfl, fun w' hSw => ?_⟩) (by assumption) ?_
      rotate_left
      · go_simp
        with_reducible rfl
      simp only [Act.put, List.setIfInBounds_toArray, List.set_cons_zero, List.set_cons_succ]
      refine seq_take (v := ?_) rfl (by kernel_rfl) (by kernel_rfl) (by kernel_rfl) (Or.inl ⟨by rfl, fun w' hSw => ?_⟩) (by assumption) ?_
      rotate_left
      · go_simp
        with_reducible rfl
      simp only [Act.put, List.setIfInBounds_toArray, List.set_cons_zero, List.set_cons_succ]
      iterate 1 (refine seq_later ?_; simp only [List.cons_append, List.nil_append])
      refine seq_take (v := ?_) rfl (by kernel_rfl) (by kernel_rfl) (by kernel_rfl) (Or.inl ⟨by rfl, fun w' hSw => ?_⟩) (by assumption) ?_
      rotate_left
      · go_simp
        with_reducible rfl
      simp only [Act.put, List.setIfInBounds_toArray, List.set_cons_zero, List.set_cons_succ]
      iterate 22 (refine seq_later ?_; simp only [List.cons_append, List.nil_append])
      refine seq_do rfl (by kernel_rfl) (by rfl) (fun K hK => ?_)
      go_simp
      refine (num_err 3 _ (HTT.out.keeps H8.out (by simp))).mono ?_
      rintro e w9 ⟨rfl, hk9⟩
      have HE := Lib.hid (H8.out.trans hk9 (by simp))
      clear H8 hk9
      refine hK.out (fun _ => True) _ _ (fun _ _ => trivial) trivial (fun hS => ?_)
      refine seq_take (v := ?_) rfl (by kernel_rfl) (by kernel_rfl) (by kernel_rfl) (Or.inl ⟨by rfl, fun w' hSw => ?_⟩) (by assumption) ?_
      rotate_left
      · go_simp
        with_reducible rfl
      simp only [Act.put, List.setIfInBounds_toArray, List.set_cons_zero, List.set_cons_succ]
      refine seq_take (v := ?_) rfl (by kernel_rfl) (by kernel_rfl) (by kernel_rfl) (Or.inl ⟨by rfl, fun w' hSw => ?_⟩) (by assumption) ?_
      rotate_left
      · go_simp
        with_reducible rfl
      simp only [Act.put, List.setIfInBounds_toArray, List.set_cons_zero, List.set_cons_succ]
      refine seq_take (v := ?_) rfl (by kernel_rfl) (by kernel_rfl) (by kernel_rfl) (Or.inl ⟨by rfl, fun w' hSw => ?_⟩) (by assumption) ?_
      rotate_left
      · go_simp
        with_reducible rfl
      simp only [Act.put, List.setIfInBounds_toArray, List.set_cons_zero, List.set_cons_succ]
      refine seq_take (v := ?_) rfl (by kernel_rfl) (by kernel_rfl) (by kernel_rfl) (Or.inl ⟨by rfl, fun w' hSw => ?_⟩) (by assumption) ?_
      rotate_left
      · go_simp
        with_reducible rfl
      simp only [Act.put, List.setIfInBounds_toArray, List.set_cons_zero, List.set_cons_succ]
      refine seq_take (v := ?_) rfl (by kernel_rfl) (by kernel_rfl) (by kernel_rfl) (Or.inl ⟨by rfl, fun w' hSw => ?_⟩) (by assumption) ?_
      rotate_left
      · go_simp
        with_reducible rfl
      simp only [Act.put, List.setIfInBounds_toArray, List.set_cons_zero, List.set_cons_succ]
      refine seq_take (v := ?_) rfl (by kernel_rfl) (by kernel_rfl) (by kernel_rfl) (Or.inl ⟨by rfl, fun w' hSw => ?_⟩) (by assumption) ?_
      rotate_left
      · go_simp
        with_reducible rfl
      simp only [Act.put, List.setIfInBounds_toArray, List.set_cons_zero, List.set_cons_succ]
      refine seq_take (v := ?_) rfl (by kernel_rfl) (by kernel_rfl) (by kernel_rfl) (Or.inl ⟨by rfl, fun w' hSw => ?_⟩) (by assumption) ?_
      rotate_left
      · go_simp
        with_reducible rfl
      simp only [Act.put, List.setIfInBounds_toArray, List.set_cons_zero, List.set_cons_succ]
      refine seq_take (v := ?_) rfl (by kernel_rfl) (by kernel_rfl) (by kernel_rfl) (Or.inl ⟨by rfl, fun w' hSw => ?_⟩) (by assumption) ?_
      rotate_left
      · go_simp
        with_reducible rfl
      simp only [Act.put, List.setIfInBounds_toArray, List.set_cons_zero, List.set_cons_succ]
      refine seq_take (v := ?_) rfl (by kernel_rfl) (by kernel_rfl) (by kernel_rfl) (Or.inl ⟨by rfl, fun w' hSw => ?_⟩) (by assumption) ?_
      rotate_left
      · go_simp
        with_reducible rfl
      simp only [Act.put, List.setIfInBounds_toArray, List.set_cons_zero, List.set_cons_succ]
      refine seq_take (v := ?_) rfl (by kernel_rfl) (by kernel_rfl) (by kernel_rfl) (Or.inl ⟨by rfl, fun w' hSw => ?_⟩) (by assumption) ?_
      rotate_left
      · go_simp
        with_reducible rfl
      simp only [Act.put, List.setIfInBounds_toArray, List.set_cons_zero, List.set_cons_succ]
      refine seq_take (v := ?_) rfl (by kernel_rfl) (by kernel_rfl) (by kernel_rfl) (Or.inl ⟨by rfl, fun w' hSw => ?_⟩) (by assumption) ?_
      rotate_left
      · go_simp
        with_reducible rfl
      simp only [Act.put, List.setIfInBounds_toArray, List.set_cons_zero, List.set_cons_succ]
      refine seq_take (v := ?_) rfl (by kernel_rfl) (by kernel_rfl) (by kernel_rfl) (Or.inl ⟨by rfl, fun w' hSw => ?_⟩) (by assumption) ?_
      rotate_left
      · go_simp
        with_reducible rfl
      simp only [Act.put, List.setIfInBounds_toArray, List.set_cons_zero, List.set_cons_succ]
      refine seq_take (v := ?_) rfl (by kernel_rfl) (by kernel_rfl) (by kernel_rfl) (Or.inl ⟨by rfl, fun w' hSw => ?_⟩) (by assumption) ?_
      rotate_left
      · go_simp
        with_reducible rfl
      simp only [Act.put, List.setIfInBounds_toArray, List.set_cons_zero, List.set_cons_succ]
      refine seq_take (v := undef) rfl (by kernel_rfl) (by kernel_rfl) (by kernel_rfl) (Or.inr ⟨by rfl, rfl⟩) (by assumption) ?_
      simp only [Act.put, List.setIfInBounds_toArray, List.set_cons_zero, List.set_cons_succ]
      refine seq_take (v := undef) rfl (by kernel_rfl) (by kernel_rfl) (by kernel_rfl) (Or.inr ⟨by rfl, rfl⟩) (by assumption) ?_
      simp only [Act.put, List.setIfInBounds_toArray, List.set_cons_zero, List.set_cons_succ]
      refine seq_take (v := undef) rfl (by kernel_rfl) (by kernel_rfl) (by kernel_rfl) (Or.inr ⟨by rfl, rfl⟩) (by assumption) ?_
      simp only [Act.put, List.setIfInBounds_toArray, List.set_cons_zero, List.set_cons_succ]
      refine seq_take (v := undef) rfl (by kernel_rfl) (by kernel_rfl) (by kernel_rfl) (Or.inr ⟨by rfl, rfl⟩) (by assumption) ?_
      simp only [Act.put, List.setIfInBounds_toArray, List.set_cons_zero, List.set_cons_succ]
      refine seq_take (v := undef) rfl (by kernel_rfl) (by kernel_rfl) (by kernel_rfl) (Or.inr ⟨by rfl, rfl⟩) (by assumption) ?_
      simp only [Act.put, List.setIfInBounds_toArray, List.set_cons_zero, List.set_cons_succ]
      refine seq_take (v := undef) rfl (by kernel_rfl) (by kernel_rfl) (by kernel_rfl) (Or.inr ⟨by rfl, rfl⟩) (by assumption) ?_
      simp only [Act.put, List.setIfInBounds_toArray, List.set_cons_zero, List.set_cons_succ]
      refine seq_take (v := undef) rfl (by kernel_rfl) (by kernel_rfl) (by kernel_rfl) (Or.inr ⟨by rfl, rfl⟩) (by assumption) ?_
      simp only [Act.put, List.setIfInBounds_toArray, List.set_cons_zero, List.set_cons_succ]
      refine seq_take (v := ?_) rfl (by kernel_rfl) (by kernel_rfl) (by kernel_rfl) (Or.inl ⟨by rfl, fun w' hSw => ?_⟩) (by assumption) ?_
      rotate_left
      · go_simp
        with_reducible rfl
      simp only [Act.put, List.setIfInBounds_toArray, List.set_cons_zero, List.set_cons_succ]
      refine seq_take (v := ?_) rfl (by kernel_rfl) (by kernel_rfl) (by kernel_rfl) (Or.inl ⟨by rfl, fun w' hSw => ?_⟩) (by assumption) ?_
      rotate_left
      · go_simp
        with_reducible rfl
      simp only [Act.put, List.setIfInBounds_toArray, List.set_cons_zero, List.set_cons_succ]
      refine seq_done (by kernel_rfl) ?_
      all_goals skip
      clear hS HNO
      generalize w9 = V at HE ⊢
    all_goals
      go_wp2_with fail
      refine (nadd_any _ V).mono ?_
      rintro e w12 ⟨rfl, rfl⟩
      go_wp2_with fail
      refine (nmay_any _ V).mono ?_
      rintro e w12 ⟨rfl, rfl⟩
      go_wp2_with fail
      refine (nfull_any V).mono ?_
      rintro e w12 ⟨rfl, rfl⟩
      go_wp2_with fail
      refine (nenc_any V).mono ?_
      rintro e w12 ⟨rfl, rfl⟩
      go_wp2_with fail
      refine (nbits_any _ V).mono ?_
      rintro e w12 ⟨rfl, rfl⟩
      go_wp2_with fail
      refine (bsure_any V).mono ?_
      rintro e w13 ⟨rfl, hk13⟩
      have H13 := Lib.hid (HE.out.trans hk13 (by simp))
      clear hk13
      go_wp2_with fail
      go_ret
      exact ⟨rfl, H13.out⟩
theorem runs_row (s : Int × Int × Unit) (KA : Option Addr) (kc : Nat) (xs : List ByteArray) (BA : Option Addr) (l : List UInt8) (bc : Nat) (w : World) (ht : HT w) (hok : (K.slice 16 K.str).ok w ((KA, kc), xs)) (hl : l.length ≤ 140737488351232) (hc : l.length ≤ bc) (hr : RdB w BA l) :
    Calls Tryd.prog 4 #[.agg ((K.pair (K.int .i64) (K.pair (K.int .i64) K.nil)).cells s).toArray, .slice KA xs.length kc, .slice BA l.length bc] w fun e w' => e = .returned (.bool true) ∧ Below w.heap.size w w' :=
  (runs_any s.1 s.2.1 KA kc xs BA l bc w ht hok hl hc hr (fun a ha hp => Rd.lt hr (by simpa using hp) ha)).mono fun _ _ h => ⟨h.1, h.2.below (Nat.le_refl _) (by simp)⟩
end Go.Proofs.YthppbefemfkccaaDoor
