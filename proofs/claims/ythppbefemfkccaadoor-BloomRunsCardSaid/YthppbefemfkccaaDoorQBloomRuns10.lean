/- The document's filter of bytes: a contract. How many bits the document's filter has set: a contract. How many bits are set, bit by bit: plain lists. -/
import Derived.Test.YthppbefemfkccaaDoorQBloomRuns7
import Derived.Test.YthppbefemfkccaaDoorQBloomRuns5
import Derived.Test.YthppbefemfkccaaDoorQBloomRuns9
import Derived.Deep.DeepCutAuto
namespace Go.Proofs.YthppbefemfkccaaDoor
open Go.RowKit
attribute [local irreducible] bitsK orAll

/-- The list of a filter's bits. -/
def bitsL (n : Nat) (x : List UInt8) : List Value := (List.range n).map fun i => .bool (hasBit x i)
def RDecP (b : List UInt8) (w : World) (e : Ending) (w' : World) : Prop :=
  (decOk b ∧ ∃ g, e = .returned (.tuple #[.agg #[.int .i64 (kK b : Nat), .slice (some ⟨g, 0, none⟩) (nK b) (nK b)], .int .i64 0]) ∧ w.heap.size ≤ g ∧ w'.heap[g]? = some (.cells (bitsL (nK b) (xK b)).toArray 4 (0, 0)) ∧ Keeps [] w w') ∨
  (¬ decOk b ∧ e = .returned (.tuple #[.agg #[.int .i64 0, .slice none 0 0], .int .i64 3]) ∧ Keeps [] w w')
/-- The result's block, the reader's block. -/
def RSt (w0 w : World) (g0 gr : Nat) (A : Option Addr) (n c : Nat) (e : Int) : Prop :=
  w.heap[g0]? = some (.cells #[.int .i64 0, .slice none 0 0] 31 (0, 0)) ∧ w.heap[gr]? = some (.cells #[.slice A n c, .int .i64 e] 70 (0, 0)) ∧ w0.heap.size ≤ g0 ∧ w0.heap.size ≤ gr ∧ g0 ≠ gr ∧ Keeps [] w0 w
theorem RSt.cells {w0 w : World} {g0 gr : Nat} {A : Option Addr} {n c : Nat} {e : Int} (h : RSt w0 w g0 gr A n c e) : w.cell? ⟨gr, 0, none⟩ = some (.slice A n c) ∧ w.cell? ⟨gr, 1, none⟩ = some (.int .i64 e) ∧ (∀ i, w.frozen? ⟨gr, i, none⟩ = false) ∧ (∀ i, w.frozen? ⟨g0, i, none⟩ = false) ∧
    w.cell? ⟨g0, 0, none⟩ = some (.int .i64 0) ∧ w.cell? ⟨g0, 1, none⟩ = some (.slice none 0 0) := by
  refine ⟨?_, ?_, fun i => frozen_of_row w gr i _ _ h.2.1, fun i => frozen_of_row w g0 i _ _ h.1, ?_, ?_⟩
  · rw [cell_of_row _ _ _ _ _ _ h.2.1]; rfl
  · rw [cell_of_row _ _ _ _ _ _ h.2.1]; rfl
  · rw [cell_of_row _ _ _ _ _ _ h.1]; rfl
  · rw [cell_of_row _ _ _ _ _ _ h.1]; rfl
theorem RSt.keeps {w0 w w' : World} {g0 gr : Nat} {A : Option Addr} {n c : Nat} {e : Int} (h : RSt w0 w g0 gr A n c e) (hk : Keeps [] w w') : RSt w0 w' g0 gr A n c e :=
  ⟨(hk.block g0 (lt_of_block h.1) (by simp)).trans h.1, (hk.block gr (lt_of_block h.2.1) (by simp)).trans h.2.1, h.2.2.1, h.2.2.2.1, h.2.2.2.2.1, h.2.2.2.2.2.trans hk (by simp)⟩
theorem RSt.set {w0 w : World} {g0 gr : Nat} {A : Option Addr} {n c : Nat} {e : Int} (h : RSt w0 w g0 gr A n c e) (A' : Option Addr) (n' c' : Nat) (e' : Int) : RSt w0 ((w.setCell ⟨gr, 0, none⟩ (.slice A' n' c')).setCell ⟨gr, 1, none⟩ (.int .i64 e')) g0 gr A' n' c' e' := by
  have hk : Keeps [gr] w ((w.setCell ⟨gr, 0, none⟩ (.slice A' n' c')).setCell ⟨gr, 1, none⟩ (.int .i64 e')) := ((Keeps.refl _ w).setCell (p := ⟨gr, 0, none⟩) (.inl (by simp)) _).setCell (p := ⟨gr, 1, none⟩) (.inl (by simp)) _
  refine ⟨(hk.block g0 (lt_of_block h.1) (by simpa using h.2.2.2.2.1)).trans h.1, ?_, h.2.2.1, h.2.2.2.1, h.2.2.2.2.1, h.2.2.2.2.2.trans hk (fun t ht => .inr (by simp at ht; have := h.2.2.2.1; omega))⟩
  rw [heap_setCell_same _ gr 1 _ _ _ (heap_setCell_same w gr 0 _ _ _ h.2.1)]
  rfl

theorem uintR_len (most : Nat) (l : List UInt8) (e : Int) : (uintR most l e).1.length ≤ l.length := by
  unfold uintR
  split
  · exact Nat.le_refl _
  · unfold bnd
    repeat' split
    all_goals first | exact Nat.le_refl _ | (simp only [List.length_drop]; omega)
theorem make_boolsU (w : World) (m : Nat) (hm : m ≤ 1048576) : (Instr.makeSlice 29 (.int .u64 (m : Int)) (.int .u64 (m : Int))).run Tryd.prog w = .ok (.slice (some ⟨w.heap.size, 0, none⟩) m m) (w.alloc (.cells (List.replicate m (.bool false)).toArray 4)) := by
  obtain ⟨i, hi, hz0, hz1, hz2⟩ := info_parts infoBo
  have := run_make (P := Tryd.prog) w 29 4 i (.bool false) Tryd.underlying29 hi hz0 .u64 .u64 m m (by omega) (Int.le_refl _) (by rw [hz2]; omega) (by omega)
  rw [this, hz1, Int.toNat_natCast, made_is _ rfl]
theorem bytesR_le (most : Int) (l : List UInt8) (e : Int) {N : Nat} (h : l.length ≤ N) : (bytesR most l e).2.2.length ≤ N := by
  unfold bytesR
  repeat' split
  · simp
  · simp
  · simp
  · unfold bnd
    repeat' split
    all_goals simp only [List.length_take, List.length_drop]; omega
theorem RSt.keepSet {w0 w : World} {g0 gr : Nat} {A : Option Addr} {n c : Nat} {e : Int} (_h : RSt w0 w g0 gr A n c e) (A' : Option Addr) (n' c' : Nat) (e' : Int) : Keeps [gr] w ((w.setCell ⟨gr, 0, none⟩ (.slice A' n' c')).setCell ⟨gr, 1, none⟩ (.int .i64 e')) :=
  ((Keeps.refl _ w).setCell (p := ⟨gr, 0, none⟩) (.inl (by simp)) _).setCell (p := ⟨gr, 1, none⟩) (.inl (by simp)) _
/-- The result's block as it was. -/
theorem RSt.zero {w0 w : World} {g0 gr : Nat} {A : Option Addr} {n c : Nat} {e : Int} (h : RSt w0 w g0 gr A n c e) : ((w.setCell ⟨g0, 0, none⟩ (.int .i64 0)).setCell ⟨g0, 1, none⟩ (.slice none 0 0)).heap[g0]? = some (.cells #[.int .i64 0, .slice none 0 0] 31 (0, 0)) ∧ Keeps [] w0 ((w.setCell ⟨g0, 0, none⟩ (.int .i64 0)).setCell ⟨g0, 1, none⟩ (.slice none 0 0)) := by
  refine ⟨?_, (h.2.2.2.2.2.setCell (.inr h.2.2.1) _).setCell (.inr h.2.2.1) _⟩
  rw [heap_setCell_same _ g0 1 _ _ _ (heap_setCell_same w g0 0 _ _ _ h.1)]
  rfl
theorem spare_none {n m : Nat} {x : List UInt8} (hm : m = (n + 7) / 8) (hn : 1 ≤ n) (hx : x.length = m) (h : ∀ t, n ≤ t → t < 8 * m → hasBit x t = false) : n % 8 = 0 ∨ spareK n x = 0 := by
  by_cases h0 : n % 8 = 0
  · exact .inl h0
  · refine .inr ?_
    unfold spareK
    rw [hx]
    refine Nat.eq_of_testBit_eq fun s => ?_
    rw [Nat.zero_testBit, Nat.testBit_div_two_pow]
    by_cases hs : s + n % 8 < 8
    · have h1 := h (8 * (m - 1) + (s + n % 8)) (by omega) (by omega)
      unfold hasBit at h1
      rw [show (8 * (m - 1) + (s + n % 8)) / 8 = m - 1 by omega, show (8 * (m - 1) + (s + n % 8)) % 8 = s + n % 8 by omega] at h1
      exact h1
    · have hp : 2 ^ 8 ≤ 2 ^ (s + n % 8) := Nat.pow_le_pow_right (by decide) (by omega)
      have hx := (x.getD (m - 1) 0).toNat_lt
      exact Nat.testBit_lt_two_pow (by omega)
theorem spare_some {n m i : Nat} {x : List UInt8} (hm : m = (n + 7) / 8) (hx : x.length = m) (h1 : n ≤ i) (h2 : i < 8 * m) (h : hasBit x i = true) : ¬ (n % 8 = 0 ∨ spareK n x = 0) := by
  rintro (h0 | h0)
  · omega
  · unfold spareK at h0
    rw [hx] at h0
    unfold hasBit at h
    rw [show i / 8 = m - 1 by omega] at h
    have h3 : ((x.getD (m - 1) 0).toNat / 2 ^ (n % 8)).testBit (i % 8 - n % 8) = (x.getD (m - 1) 0).toNat.testBit (i % 8 - n % 8 + n % 8) := by rw [Nat.testBit_div_two_pow]
    rw [h0, Nat.zero_testBit, show i % 8 - n % 8 + n % 8 = i % 8 by omega, h] at h3
    cases h3
theorem DI_end {xs : List Value} {n : Nat} {x : List UInt8} (hl : xs.length = n) (h : ∀ t, t < n → xs[t]? = some (.bool (hasBit x t))) : xs = bitsL n x := by
  refine List.ext_getElem? fun t => ?_
  by_cases ht : t < n
  · rw [h t ht]; simp [bitsL, ht]
  · rw [List.getElem?_eq_none (by omega), List.getElem?_eq_none (by simp [bitsL]; omega)]
theorem infoBo1 : (Tryd.prog.info? 4).map (·.size) = some 1 := by kernel_rfl
/-- How far the bits have been taken over. -/
structure DI (w w' : World) (g0 gb gf n k i : Nat) (A : Option Addr) (x : List UInt8) (xs : List Value) : Prop where
  len : xs.length = n
  got : ∀ t, t < n → t < i → xs[t]? = some (.bool (hasBit x t))
  rest : ∀ t, n ≤ t → t < i → hasBit x t = false
  rb : w'.heap[gb]? = some (.cells xs.toArray 4 (0, 0))
  rf : w'.heap[gf]? = some (.cells #[.int .i64 (k : Int), .slice (some ⟨gb, 0, none⟩) n n] 31 (0, 0))
  rz : w'.heap[g0]? = some (.cells #[.int .i64 0, .slice none 0 0] 31 (0, 0))
  rd : RdB w' A x
  kp : Keeps [] w w'
theorem DI.next {w w' : World} {g0 gb gf n k i : Nat} {A : Option Addr} {x : List UInt8} {xs : List Value} (h : DI w w' g0 gb gf n k i A x xs) (hi : i < n) (h0 : w.heap.size ≤ gb) (h1 : gb ≠ gf) (h2 : gb ≠ g0) (h3 : ∀ a, A = some a → 0 < x.length → a.block ≠ gb) :
    DI w (w'.setCell ⟨gb, i, none⟩ (.bool (hasBit x i))) g0 gb gf n k (i + 1) A x (xs.set i (.bool (hasBit x i))) := by
  have hk : Keeps [gb] w' (w'.setCell ⟨gb, i, none⟩ (.bool (hasBit x i))) := (Keeps.refl _ w').setCell (p := ⟨gb, i, none⟩) (.inl (by simp)) _
  have hil : i < xs.length := by rw [h.len]; exact hi
  refine ⟨by simpa using h.len, fun t ht ht2 => ?_, fun t ht ht2 => by omega, ?_, (hk.block gf (lt_of_block h.rf) (by simpa using fun e => h1 e.symm)).trans h.rf, (hk.block g0 (lt_of_block h.rz) (by simpa using fun e => h2 e.symm)).trans h.rz, h.rd.keeps hk (fun a ha hl => by simpa using h3 a ha hl), h.kp.setCell (.inr h0) _⟩
  · by_cases e : t = i
    · subst e; rw [List.getElem?_set_self hil]
    · rw [List.getElem?_set_ne (by omega)]; exact h.got t ht (by omega)
  · rw [heap_setCell_same w' gb i _ _ _ h.rb]
    simp
theorem DI.past {w w' : World} {g0 gb gf n k i : Nat} {A : Option Addr} {x : List UInt8} {xs : List Value} (h : DI w w' g0 gb gf n k i A x xs) (hi : n ≤ i) (hb : hasBit x i = false) : DI w w' g0 gb gf n k (i + 1) A x xs :=
  ⟨h.len, fun t ht ht2 => h.got t ht (by omega), fun t ht ht2 => by
    by_cases e : t = i
    · subst e; exact hb
    · exact h.rest t ht (by omega), h.rb, h.rf, h.rz, h.rd, h.kp⟩
set_option maxRecDepth 100000 in
set_option maxHeartbeats 8000000 in
theorem rdec_any (A : Option Addr) (b : List UInt8) (c : Nat) (w : World) (hl : b.length ≤ 140737488351232) (hc : b.length ≤ c) (hr : RdB w A b) (hA : ∀ a, A = some a → 0 < b.length → a.block < w.heap.size) :
    Calls Tryd.prog 16 #[.slice A b.length c] w (RDecP b w) := by
  have H0 := Lib.hid (And.intro (And.intro hl hc) (And.intro hr hA))
  have BA := Lib.hid (show ∀ t ∈ blk A, 0 < b.length → t < w.heap.size from fun t ht h0 => by obtain ⟨a, e1, e2⟩ := mem_blk.1 ht; rw [← e2]; exact hA a e1 h0)
  clear hl hc hr hA
  go_enter Tryd.func16, Tryd.ntmps16
  go_wp2_with fail
  refine (refreaduint_any A b c 0 _ H0.out.1.1 H0.out.1.2 (H0.out.2.1.alloc _) 1048576).mono ?_
  rintro e w2 ⟨A2, c2, l2, hl2, rfl, hr2, hc2, hk2, hb2⟩
  obtain ⟨n, hn⟩ : ∃ n, n = nK b := ⟨_, rfl⟩
  obtain ⟨e1, he1⟩ : ∃ e1, e1 = (decN b).2.1 := ⟨_, rfl⟩
  have hnle : n ≤ 1048576 := by rw [hn]; exact uintR_le _ _ _
  rw [show (uintR 1048576 b 0).2.2 = n by rw [hn]; rfl, show (uintR 1048576 b 0).2.1 = e1 by rw [he1]; rfl]
  have HN := Lib.hid hn
  have HE1 := Lib.hid he1
  obtain ⟨g0, hg0⟩ : ∃ g0, g0 = w.heap.size := ⟨_, rfl⟩
  obtain ⟨gr, hgr⟩ : ∃ gr, gr = w2.heap.size := ⟨_, rfl⟩
  rw [← hg0]
  obtain ⟨W2, hW2⟩ : ∃ W2, W2 = w2.alloc (.cells #[.slice A2 l2.length c2, .int .i64 e1] 70) := ⟨_, rfl⟩
  have H2 := Lib.hid (show RSt w W2 g0 gr A2 l2.length c2 e1 ∧ RdB W2 A2 l2 ∧ l2 = (decN b).1 ∧ l2.length ≤ c2 ∧ l2.length ≤ 140737488351232 ∧ l2.length ≤ b.length ∧ (∀ a, A2 = some a → a.block ∈ blk A) from by
    have hz : w2.heap[g0]? = some (.cells #[.int .i64 0, .slice none 0 0] 31 (0, 0)) := (hk2.block g0 (by simp [hg0]) (by simp)).trans (by rw [hg0]; exact heap_alloc_new _ _)
    have hkw : Keeps [] w w2 := ((Keeps.refl [] w).alloc _).trans hk2 (by simp)
    have hlt := lt_of_block hz
    refine ⟨⟨?_, ?_, by omega, by have := hkw.size; omega, by omega, by rw [hW2]; exact hkw.alloc _⟩, by rw [hW2]; exact hr2.alloc _, hl2.out, hc2, ?_, by rw [hl2.out]; exact uintR_len _ _ _, hb2⟩
    · rw [hW2]; exact (Below.heap_alloc _ _ _ hlt).trans hz
    · rw [hW2, hgr]; exact heap_alloc_new _ _
    · rw [hl2.out]; exact Nat.le_trans (uintR_len _ _ _) H0.out.1.1)
  have HG := Lib.hid hgr
  have HW2 := Lib.hid hW2
  clear hl2 hr2 hc2 hk2 hb2 hn he1 hg0 hgr hW2
  go_wp2_with fail
  rw [← HW2.out, ← HG.out]
  refine (refreaduint_any A2 l2 c2 e1 W2 H2.out.2.2.2.2.1 H2.out.2.2.2.1 H2.out.2.1 16).mono ?_
  rintro e w3 ⟨A3, c3, l3, hl3, rfl, hr3, hc3, hk3, hb3⟩
  obtain ⟨k, hk⟩ : ∃ k, k = kK b := ⟨_, rfl⟩
  obtain ⟨e2, he2⟩ : ∃ e2, e2 = (decA b).2.1 := ⟨_, rfl⟩
  have ek : uintR 16 l2 e1 = decA b := by rw [H2.out.2.2.1, HE1.out]; rfl
  have hkle : k ≤ 16 := by rw [hk]; exact uintR_le _ _ _
  rw [ek] at hl3 ⊢
  rw [show (decA b).2.2 = k by rw [hk]; rfl, ← he2]
  have HK := Lib.hid hk
  have HE2 := Lib.hid he2
  have hst := H2.out.1.keeps hk3
  obtain ⟨W3, hW3⟩ : ∃ W3, W3 = (w3.setCell ⟨gr, 0, none⟩ (.slice A3 l3.length c3)).setCell ⟨gr, 1, none⟩ (.int .i64 e2) := ⟨_, rfl⟩
  have HW3 := Lib.hid hW3
  have H3 := Lib.hid (show RSt w W3 g0 gr A3 l3.length c3 e2 ∧ RdB W3 A3 l3 ∧ l3 = (decA b).1 ∧ l3.length ≤ c3 ∧ l3.length ≤ 140737488351232 ∧ l3.length ≤ b.length ∧ (∀ a, A3 = some a → a.block ∈ blk A) from by
    have hl3b : l3.length ≤ b.length := by rw [hl3.out, ← ek]; exact Nat.le_trans (uintR_len _ _ _) H2.out.2.2.2.2.2.1
    have hb3' : ∀ a, A3 = some a → a.block ∈ blk A := fun a ha => by obtain ⟨a2, x1, x2⟩ := mem_blk.1 (hb3 a ha); rw [← x2]; exact H2.out.2.2.2.2.2.2 a2 x1
    have h1 := hst.set A3 l3.length c3 e2
    rw [← hW3] at h1
    refine ⟨h1, ?_, hl3.out, hc3, Nat.le_trans hl3b H0.out.1.1, hl3b, hb3'⟩
    rw [hW3]
    exact hr3.keeps (RSt.keepSet hst A3 l3.length c3 e2) (fun a ha h0 => by have := BA.out _ (hb3' a ha) (by omega); have := hst.2.2.2.1; simp; omega))
  obtain ⟨c0, c1, fr, f0, d0, d1⟩ := hst.cells
  have f1 := fr 0
  have f2 := fr 1
  clear hl3 hr3 hc3 hk3 hb3 hk he2 ek hst H2 hW3 fr f0 d0 d1
  go_wp2_with fail
  rw [← HW3.out]
  refine (refreadbytes_any A3 l3 c3 e2 W3 H3.out.2.2.2.2.1 H3.out.2.2.2.1 H3.out.2.1 (b.length : Int) (by omega) (by have := H0.out.1.1; omega)).mono ?_
  rintro e w4 ⟨A4, c4, l4, A5, c5, x, hl4, hx, rfl, hr4, hc4, hrx, hcx, hk4, hb4, hb5⟩
  obtain ⟨e3, he3⟩ : ∃ e3, e3 = (decX b).2.1 := ⟨_, rfl⟩
  have ex : bytesR (b.length : Int) l3 e2 = decX b := by rw [H3.out.2.2.1, HE2.out]; rfl
  rw [ex] at hl4 hx ⊢
  rw [← he3]
  have HE3 := Lib.hid he3
  have hst := H3.out.1.keeps hk4
  obtain ⟨W4, hW4⟩ : ∃ W4, W4 = (w4.setCell ⟨gr, 0, none⟩ (.slice A4 l4.length c4)).setCell ⟨gr, 1, none⟩ (.int .i64 e3) := ⟨_, rfl⟩
  have HW4 := Lib.hid hW4
  have H4 := Lib.hid (show RSt w W4 g0 gr A4 l4.length c4 e3 ∧ RdB W4 A5 x ∧ l4 = (decX b).1 ∧ x = xK b ∧ x.length ≤ 140737488351232 from by
    have h1 := hst.set A4 l4.length c4 e3
    rw [← hW4] at h1
    have hxl : x.length ≤ b.length := by
      rw [hx.out, ← ex]
      exact bytesR_le _ _ _ H3.out.2.2.2.2.2.1
    refine ⟨h1, ?_, hl4.out, hx.out, Nat.le_trans hxl H0.out.1.1⟩
    rw [hW4]
    exact hrx.keeps (RSt.keepSet hst A4 l4.length c4 e3) (fun a ha h0 => by
      obtain ⟨a2, x1, x2⟩ := mem_blk.1 (hb5 a ha)
      have := BA.out _ (H3.out.2.2.2.2.2.2 a2 x1) (by omega); have := hst.2.2.2.1; simp; omega))
  obtain ⟨c0, c1, fr, f0, d0, d1⟩ := hst.cells
  have f1 := fr 0
  have f2 := fr 1
  clear hl4 hx hr4 hc4 hrx hcx hk4 hb4 hb5 he3 ex hst H3 hW4 fr f0 d0 d1
  go_wp2_with fail
  rw [← HW4.out]
  refine (refdone_any A4 l4 c4 e3 W4).mono ?_
  rintro e w5 ⟨rfl, hk5⟩
  rw [show doneR l4 e3 = decE b by rw [H4.out.2.2.1, HE3.out]; rfl]
  have H5 := Lib.hid (show RSt w w5 g0 gr A4 l4.length c4 e3 ∧ RdB w5 A5 x ∧ x = xK b ∧ x.length ≤ 140737488351232 from ⟨H4.out.1.keeps hk5, H4.out.2.1.keeps0 hk5, H4.out.2.2.2.1, H4.out.2.2.2.2⟩)
  obtain ⟨_, _, _, fr, d0, d1⟩ := H5.out.1.cells
  have f1 := fr 0
  have f2 := fr 1
  have NO := Lib.hid (show ¬ decOk b → RDecP b w (.returned (.tuple #[.agg #[.int .i64 0, .slice none 0 0], .int .i64 3])) ((w5.setCell ⟨g0, 0, none⟩ (.int .i64 0)).setCell ⟨g0, 1, none⟩ (.slice none 0 0)) from fun h => .inr ⟨h, rfl, H5.out.1.zero.2⟩)
  have NR := Lib.hid H5.out.1.zero.1
  clear hk5 H4 fr
  by_cases he : decE b = 0
  · rw [he]
    have HE := Lib.hid he
    clear he
    by_cases hn0 : n = 0
    · have HNO := Lib.hid (show ¬ decOk b from fun h => by have h1 := h.2.1.1; rw [← HN.out] at h1; omega)
      have hni : (n : Int) = 0 := by omega
      clear hn0
      go_wp2_with fail
      refine bodyPost_ret (v := .tuple #[.agg #[.int .i64 0, .slice none 0 0], .int .i64 3]) (results_cell_tmp2 Tryd.results16 _ _ g0 31 _ (0, 0) _ _ rfl rfl NR.out Tryd.underlying31 rfl info_rf) rfl (NO.out HNO.out)
    · have hni : ¬ (n : Int) = 0 := by omega
      have hnb : ((n : Int) == 0) = false := by simpa using hni
      by_cases hk0 : k = 0
      · have HNO := Lib.hid (show ¬ decOk b from fun h => by have h1 := h.2.1.2.2.1; rw [← HK.out] at h1; omega)
        have hki : (k : Int) = 0 := by omega
        clear hk0 hn0
        go_wp2_with fail
        refine bodyPost_ret (v := .tuple #[.agg #[.int .i64 0, .slice none 0 0], .int .i64 3]) (results_cell_tmp2 Tryd.results16 _ _ g0 31 _ (0, 0) _ _ rfl rfl NR.out Tryd.underlying31 rfl info_rf) rfl (NO.out HNO.out)
      · have hki : ¬ (k : Int) = 0 := by omega
        have hkb : ((k : Int) == 0) = false := by simpa using hki
        obtain ⟨m, hm⟩ : ∃ m, m = (n + 7) / 8 := ⟨_, rfl⟩
        have hw1 : IntKind.i64.wrap (n : Int) = (n : Int) := by rw [IntKind.wrap_i64]; omega
        have hw2 : IntKind.i64.wrap (k : Int) = (k : Int) := by rw [IntKind.wrap_i64]; omega
        have hq : ((n : Int) + 7).tdiv 8 = (m : Int) := by rw [Int.tdiv_eq_ediv_of_nonneg (by omega)]; omega
        have hq2 : ((n : Int) + 7) / 8 = (m : Int) := by omega
        by_cases hlen : x.length = m
        · have hl : ((x.length : Nat) : Int) = (m : Int) := by omega
          have HFIT := Lib.hid (show FitB (nK b) (kK b) ∧ (xK b).length = (nK b + 7) / 8 from ⟨by rw [← HN.out, ← HK.out]; unfold FitB; omega, by rw [← HN.out, ← H5.out.2.2.1, hlen]; exact hm⟩)
          have hms := make_boolsU w5 n hnle
          have HM := Lib.hid (And.intro hm hlen)
          clear hn0 hk0 hlen hm d0 d1 f1 f2
          go_upto_region 7 with fail
          have HB0 := Lib.hid (show ∃ xs, DI w ((w5.alloc (.cells (Array.replicate n (.bool false)) 4)).alloc (.cells #[.int .i64 (k : Int), .slice (some ⟨w5.heap.size, 0, none⟩) n n] 31)) g0 w5.heap.size (w5.heap.size + 1) n k 0 A5 x xs from
            ⟨List.replicate n (.bool false), by simp, fun t _ h => by omega, fun t _ h => by omega, by
              have := heap_alloc2_old w5 (.cells (Array.replicate n (.bool false)) 4) (.cells #[.int .i64 (k : Int), .slice (some ⟨w5.heap.size, 0, none⟩) n n] 31)
              simpa using this, heap_alloc2_new _ _ _, (((Keeps.refl [] w5).alloc _).alloc _).block g0 (lt_of_block H5.out.1.1) (by simp) |>.trans H5.out.1.1, (H5.out.2.1.alloc _).alloc _, (H5.out.1.2.2.2.2.2.alloc _).alloc _⟩)
          have HG2 := Lib.hid (show w.heap.size ≤ w5.heap.size ∧ w5.heap.size ≠ g0 ∧ (∀ a, A5 = some a → 0 < x.length → a.block ≠ w5.heap.size) from ⟨H5.out.1.2.2.2.2.2.size, by have := lt_of_block H5.out.1.1; omega, fun a ha hl => by
            have := Rd.lt H5.out.2.1 (by simpa using hl) ha; omega⟩)
          generalize ((w5.alloc (.cells (Array.replicate n (.bool false)) 4)).alloc (.cells #[.int .i64 (k : Int), .slice (some ⟨w5.heap.size, 0, none⟩) n n] 31)) = W6 at HB0 ⊢
          obtain ⟨gb, hgb⟩ : ∃ gb, gb = w5.heap.size := ⟨_, rfl⟩
          obtain ⟨gf, hgf⟩ : ∃ gf, gf = w5.heap.size + 1 := ⟨_, rfl⟩
          rw [← hgf, ← hgb] at HB0 ⊢
          rw [← hgb] at HG2
          have HGF := Lib.hid (show gb ≠ gf by omega)
          have HX := Lib.hid H5.out.2.2.1
          have HG0 := Lib.hid H5.out.1.2.2.1
          have HMM := Lib.hid (show x.length = m ∧ m ≤ 131073 from ⟨HM.out.2, by omega⟩)
          clear hgb hgf hms hq hq2 NO NR hnb hkb hki H5
          go_wp2_with fail
          go_loopw [9] (fun si wr => ∃ i : Nat, i ≤ 8 * m ∧ si = .int .i64 i ∧ Hid (∃ xs, DI w wr g0 gb gf n k i A5 x xs)) (fun si _ => 8 * m - (intOf si).toNat)
          case atStart => exact ⟨0, Nat.zero_le _, rfl, HB0.out⟩
          case round =>
            clear HB0
            obtain ⟨i, hi, rfl, hinv⟩ := hrel
            obtain ⟨xs, hdi⟩ := hinv.out
            have HDI := Lib.hid hdi
            have hm2 : m ≤ 131073 := HMM.out.2
            by_cases hlt : i < 8 * m
            · have hix : (i : Int) < 8 * (m : Int) := by omega
              obtain ⟨q, hq⟩ : ∃ q, q = i / 8 := ⟨_, rfl⟩
              obtain ⟨r, hr⟩ : ∃ r, r = i % 8 := ⟨_, rfl⟩
              have hqx : q < x.length := by have := HMM.out.1; omega
              have tq : (i : Int).tdiv 8 = (q : Int) := by rw [Int.tdiv_eq_ediv_of_nonneg (by omega)]; omega
              have tq2 : (i : Int) / 8 = (q : Int) := by omega
              have tr : (i : Int).tmod 8 = (r : Int) := by rw [Int.tmod_eq_emod_of_nonneg (by omega)]; omega
              have hr8 : (r : Int) < 8 := by omega
              have hwr : IntKind.u64.wrap (r : Int) = (r : Int) := by rw [IntKind.wrap_u64]; omega
              have hqm : (q : Int) < (m : Int) := by have := HMM.out.1; omega
              obtain ⟨gx, ox, hA5, hcx⟩ := hdi.rd.form (by omega)
              have hc := hcx q hqx
              obtain ⟨v, hv⟩ : ∃ v, v = x[q] := ⟨_, rfl⟩
              rw [← hv] at hc
              obtain ⟨z, hz⟩ : ∃ z, z = v.toNat / 2 ^ r := ⟨_, rfl⟩
              have dz : (v.toNat : Int) / 2 ^ r = (z : Int) := by rw [hz]; simp
              obtain ⟨o, ho⟩ : ∃ o, o = z % 2 := ⟨_, rfl⟩
              have tz : (z : Int).tmod 2 = (o : Int) := by rw [Int.tmod_eq_emod_of_nonneg (by omega)]; omega
              obtain ⟨bv, hbv⟩ : ∃ bv, bv = hasBit x i := ⟨_, rfl⟩
              have hob : ((o : Int) == 1) = bv := by
                rw [hbv]
                unfold hasBit
                rw [← hq, ← hr, List.getD_eq_getElem?_getD, List.getElem?_eq_getElem hqx, Option.getD_some, ← hv, Nat.testBit_eq_decide_div_mod_eq, ← hz, ← ho]
                rw [Bool.eq_iff_iff]; simp; omega
              have HBV := Lib.hid hbv
              have hvl := v.toNat_lt
              have hql : (z : Int) < 256 := by have := Nat.div_le_self v.toNat (2 ^ r); omega
              subst hA5
              by_cases hin : i < n
              · have hini : (i : Int) < (n : Int) := by omega
                have q1 : wr.cell? ⟨gf, 1, none⟩ = some (.slice (some ⟨gb, 0, none⟩) n n) := by rw [cell_of_row _ _ _ _ _ _ hdi.rf]; rfl
                have hil : i < xs.length := by rw [hdi.len]; exact hin
                obtain ⟨v0, hv0⟩ : ∃ v0, v0 = xs[i] := ⟨_, rfl⟩
                have q2 : wr.cell? ⟨gb, i, none⟩ = some v0 := by rw [cell_of_row _ _ _ _ _ _ hdi.rb, List.getElem?_toArray, List.getElem?_eq_getElem hil, hv0]
                have fz := frozen_of_row wr gb i _ _ hdi.rb
                have HN2 := Lib.hid (show ∃ xs, DI w (wr.setCell ⟨gb, i, none⟩ (.bool bv)) g0 gb gf n k (i + 1) (some ⟨gx, ox, none⟩) x xs from by
                  rw [hbv]; exact ⟨_, hdi.next hin HG2.out.1 HGF.out HG2.out.2.1 HG2.out.2.2⟩)
                clear hq hr hqx hcx hv hz ho hbv hin hil hv0 hdi hlt
                go_wp2_with (refine wpList_store_cell rfl 4 (.tmp 81) (.tmp 80) rfl gb i (.bool bv) v0 rfl rfl rfl q2 fz infoBo1 ?_)
                go_roundw
                case rel => exact ⟨i + 1, by omega, by go_num, HN2.out⟩
                case measure => simp [intOf]; omega
              · have hini : ¬ (i : Int) < (n : Int) := by omega
                have q2 : wr.cell? ⟨g0, 0, none⟩ = some (.int .i64 0) := by rw [cell_of_row _ _ _ _ _ _ hdi.rz]; rfl
                have q3 : wr.cell? ⟨g0, 1, none⟩ = some (.slice none 0 0) := by rw [cell_of_row _ _ _ _ _ _ hdi.rz]; rfl
                have f0 := frozen_of_row wr g0 0 _ _ hdi.rz
                have f1 := frozen_of_row wr g0 1 _ _ hdi.rz
                cases bv with
                | true =>
                  have HNO := Lib.hid (show ¬ decOk b from fun h => by
                    have h1 := h.2.2.2
                    rw [← HN.out, ← HX.out] at h1
                    exact spare_some HM.out.1 HM.out.2 (by omega) hlt hbv.symm h1)
                  clear hq hr hqx hcx hv hz ho hbv hin hdi hlt
                  go_wp2_with fail
                  (try simp only [Exit.inBlock, Exit.then])
                  have hrz : ((wr.setCell ⟨g0, 0, none⟩ (.int .i64 0)).setCell ⟨g0, 1, none⟩ (.slice none 0 0)).heap[g0]? = some (.cells #[.int .i64 0, .slice none 0 0] 31 (0, 0)) := by
                    rw [heap_setCell_same _ g0 1 _ _ _ (heap_setCell_same wr g0 0 _ _ _ HDI.out.rz)]
                    rfl
                  refine bodyPost_ret (v := .tuple #[.agg #[.int .i64 0, .slice none 0 0], .int .i64 3]) (results_cell_tmp2 Tryd.results16 _ _ g0 31 _ (0, 0) _ _ rfl rfl hrz Tryd.underlying31 rfl info_rf) rfl (.inr ⟨HNO.out, rfl, (HDI.out.kp.setCell (.inr HG0.out) _).setCell (.inr HG0.out) _⟩)
                | false =>
                  have HN2 := Lib.hid (hdi.past (by omega) hbv.symm)
                  clear hq hr hqx hcx hv hz ho hbv hin hdi hlt
                  go_wp2_with fail
                  go_roundw
                  case rel => exact ⟨i + 1, by omega, by go_num, _, HN2.out⟩
                  case measure => simp [intOf]; omega
            · have hix : ¬ (i : Int) < 8 * (m : Int) := by omega
              have HIE := Lib.hid (show i = 8 * m by omega)
              have q0 : wr.cell? ⟨gf, 0, none⟩ = some (.int .i64 (k : Int)) := by rw [cell_of_row _ _ _ _ _ _ hdi.rf]; rfl
              have q1 : wr.cell? ⟨gf, 1, none⟩ = some (.slice (some ⟨gb, 0, none⟩) n n) := by rw [cell_of_row _ _ _ _ _ _ hdi.rf]; rfl
              have q2 : wr.cell? ⟨g0, 0, none⟩ = some (.int .i64 0) := by rw [cell_of_row _ _ _ _ _ _ hdi.rz]; rfl
              have q3 : wr.cell? ⟨g0, 1, none⟩ = some (.slice none 0 0) := by rw [cell_of_row _ _ _ _ _ _ hdi.rz]; rfl
              have f0 := frozen_of_row wr g0 0 _ _ hdi.rz
              have f1 := frozen_of_row wr g0 1 _ _ hdi.rz
              clear hdi hlt
              go_wp2_with fail
              have hrz : ((wr.setCell ⟨g0, 0, none⟩ (.int .i64 (k : Int))).setCell ⟨g0, 1, none⟩ (.slice (some ⟨gb, 0, none⟩) n n)).heap[g0]? = some (.cells #[.int .i64 (k : Int), .slice (some ⟨gb, 0, none⟩) n n] 31 (0, 0)) := by
                rw [heap_setCell_same _ g0 1 _ _ _ (heap_setCell_same wr g0 0 _ _ _ HDI.out.rz)]
                rfl
              have hkz : Keeps [g0] wr ((wr.setCell ⟨g0, 0, none⟩ (.int .i64 (k : Int))).setCell ⟨g0, 1, none⟩ (.slice (some ⟨gb, 0, none⟩) n n)) := ((Keeps.refl _ wr).setCell (p := ⟨g0, 0, none⟩) (.inl (by simp)) _).setCell (p := ⟨g0, 1, none⟩) (.inl (by simp)) _
              have hsp := spare_none HM.out.1 (by have := HFIT.out.1.1; rw [← HN.out] at this; omega) HM.out.2 (fun t h1 h2 => HDI.out.rest t h1 (by rw [HIE.out]; exact h2))
              have hxs := DI_end HDI.out.len (fun t ht => HDI.out.got t ht (by have := HIE.out; have := HM.out.1; omega))
              refine bodyPost_ret (v := .tuple #[.agg #[.int .i64 (k : Int), .slice (some ⟨gb, 0, none⟩) n n], .int .i64 0]) (results_cell_tmp2 Tryd.results16 _ _ g0 31 _ (0, 0) _ _ rfl rfl hrz Tryd.underlying31 rfl info_rf) rfl (.inl ⟨⟨HE.out, HFIT.out.1, HFIT.out.2, by rw [← HN.out, ← HX.out]; exact hsp⟩, gb, ?_, HG2.out.1, ?_, ?_⟩)
              · rw [← HN.out, ← HK.out]
              · rw [← HN.out, ← HX.out, ← hxs]
                exact (hkz.block gb (lt_of_block HDI.out.rb) (by simpa using HG2.out.2.1)).trans HDI.out.rb
              · exact HDI.out.kp.trans hkz (fun t ht => .inr (by simp at ht; rw [ht]; exact HG0.out))
        · have hl : ¬ ((x.length : Nat) : Int) = (m : Int) := by omega
          have HNO := Lib.hid (show ¬ decOk b from fun h => hlen (by rw [H5.out.2.2.1, h.2.2.1, ← HN.out]; exact hm.symm))
          have hlb : (((x.length : Nat) : Int) != (m : Int)) = true := by simpa using hl
          clear hlen hm hn0 hk0
          go_wp2_with fail
          refine bodyPost_ret (v := .tuple #[.agg #[.int .i64 0, .slice none 0 0], .int .i64 3]) (results_cell_tmp2 Tryd.results16 _ _ g0 31 _ (0, 0) _ _ rfl rfl NR.out Tryd.underlying31 rfl info_rf) rfl (NO.out HNO.out)
  · have HNO := Lib.hid (show ¬ decOk b from fun h => he h.1)
    have heb : (decE b != 0) = true := by simpa using he
    go_wp2_with fail
    refine bodyPost_ret (v := .tuple #[.agg #[.int .i64 0, .slice none 0 0], .int .i64 3]) (results_cell_tmp2 Tryd.results16 _ _ g0 31 _ (0, 0) _ _ rfl rfl NR.out Tryd.underlying31 rfl info_rf) rfl (NO.out HNO.out)
end Go.Proofs.YthppbefemfkccaaDoor
namespace Go.Proofs.YthppbefemfkccaaDoor
open Go.RowKit
attribute [local irreducible] bitsK orAll

def cntL (bs : List Bool) : Nat := (bs.filter id).length
theorem cntL_snoc (bs : List Bool) (i : Nat) (h : i < bs.length) : cntL (bs.take (i + 1)) = cntL (bs.take i) + (if bs[i] then 1 else 0) := by
  unfold cntL
  rw [List.take_succ_eq_append_getElem h, List.filter_append, List.length_append]
  cases bs[i] <;> simp
theorem cntL_le (bs : List Bool) : cntL bs ≤ bs.length := List.length_filter_le _ _
set_option maxHeartbeats 2000000 in
theorem rfull_gen (k : Int) (A0 : Option Addr) (c0 : Nat) (bs : List Bool) (w : World) (hl : bs.length ≤ 1048576) (hb : Rd w A0 bs.length 1 (bs.map Value.bool)) :
    Calls Tryd.prog 22 #[.agg #[.int .i64 k, .slice A0 bs.length c0]] w fun e w' => e = .returned (.int .i64 (cntL bs : Nat)) ∧ Keeps [] w w' := by
  have HB := Lib.hid hb
  clear hb
  go_enter Tryd.func22, Tryd.ntmps22
  go_wp2_with fail
  go_loop [3, 4] (fun sn si => ∃ i m : Nat, i ≤ bs.length ∧ si = .int .i64 i ∧ sn = .int .i64 m ∧ Hid (m = cntL (bs.take i))) (fun _ si => bs.length - (intOf si).toNat)
  case atStart => exact ⟨0, 0, Nat.zero_le _, rfl, rfl, rfl⟩
  case round =>
    obtain ⟨i, m, hi, rfl, rfl, hm⟩ := hrel
    by_cases hlt : i < bs.length
    · have hik : (i : Int) < ((bs.length : Nat) : Int) := by omega
      obtain ⟨bv, hbv⟩ : ∃ bv, bv = bs[i] := ⟨_, rfl⟩
      obtain ⟨a1, rfl, k1⟩ := HB.out.at_ (k := i) (by simpa using hlt)
      have k2 : w.cell? (a1.add i) = some (.bool bv) := by rw [k1, List.getElem_map, hbv]
      have hc : ∀ o, (w.alloc o).cell? (a1.add i) = some (.bool bv) := fun o => ((Keeps.refl [] w).alloc o).cell k2 (by simp)
      have HS := Lib.hid (show cntL (bs.take (i + 1)) = m + (if bv then 1 else 0) by rw [cntL_snoc bs i hlt, ← hm.out, hbv])
      have hml : m ≤ 1048576 := by
        rw [hm.out]
        have h1 := cntL_le (bs.take i)
        rw [List.length_take] at h1
        omega
      clear hbv hlt k1 k2
      cases bv with
      | true =>
        go_wp2_with fail
        go_round
        case rel => exact ⟨i + 1, m + 1, by omega, by go_num, by go_num, HS.out.symm⟩
        case measure => simp [intOf]; omega
      | false =>
        go_wp2_with fail
        go_round
        case rel => exact ⟨i + 1, m, by omega, by go_num, rfl, HS.out.symm⟩
        case measure => simp [intOf]; omega
    · have hik : ¬ (i : Int) < ((bs.length : Nat) : Int) := by omega
      have HM := Lib.hid (show m = cntL bs by rw [hm.out, List.take_of_length_le (by omega)])
      clear hlt
      go_wp2_with fail
      go_ret
      exact ⟨by rw [HM.out]; rfl, (Keeps.refl [] w).alloc _⟩
theorem rfull_any (k : Int) (g : Nat) (bs : List Bool) (w : World) (hl : bs.length ≤ 1048576) (hb : w.heap[g]? = some (.cells ((bs.map Value.bool)).toArray 4 (0, 0))) :
    Calls Tryd.prog 22 #[.agg #[.int .i64 k, .slice (some ⟨g, 0, none⟩) bs.length bs.length]] w fun e w' => e = .returned (.int .i64 (cntL bs : Nat)) ∧ Keeps [] w w' :=
  rfull_gen k _ _ bs w hl ⟨by simp, fun _ => ⟨_, rfl, fun j u hu => by rw [add_new, Nat.zero_add, cell_of_row _ _ _ _ _ _ hb, List.getElem?_toArray]; exact hu⟩⟩
end Go.Proofs.YthppbefemfkccaaDoor
namespace Go.Proofs.YthppbefemfkccaaDoor
open Go.RowKit
attribute [local irreducible] bitsK orAll

theorem cntL_append (a b : List Bool) : cntL (a ++ b) = cntL a + cntL b := by unfold cntL; rw [List.filter_append, List.length_append]
theorem ones_cnt : ∀ b : Fin 256, Lib.onesCount b.val = cntL ((List.range 8).map fun r => b.val.testBit r) := by decide +kernel
theorem fullK_cnt (x : List UInt8) : ∀ i, i ≤ x.length → fullK (x.take i) = cntL ((List.range (8 * i)).map (hasBit x)) := by
  intro i
  induction i with
  | zero => intro _; rfl
  | succ i ih =>
    intro h
    have hi : i < x.length := by omega
    rw [fullK_snoc x i hi, ih (by omega), show 8 * (i + 1) = 8 * i + 8 by omega, List.range_add, List.map_append, cntL_append, List.map_map]
    refine congrArg (cntL ((List.range (8 * i)).map (hasBit x)) + ·) ?_
    have e : Lib.onesCount x[i].toNat = cntL ((List.range 8).map fun r => x[i].toNat.testBit r) := ones_cnt ⟨x[i].toNat, x[i].toNat_lt⟩
    show Lib.onesCount x[i].toNat = _
    rw [e]
    refine congrArg cntL (List.map_congr_left fun r hr => ?_)
    have hr8 : r < 8 := by simpa using hr
    show _ = hasBit x (8 * i + r)
    unfold hasBit
    rw [show (8 * i + r) / 8 = i by omega, show (8 * i + r) % 8 = r by omega, List.getD_eq_getElem?_getD, List.getElem?_eq_getElem hi, Option.getD_some]
theorem cntL_none {l : List Bool} (h : ∀ v ∈ l, v = false) : cntL l = 0 := by
  unfold cntL
  rw [List.filter_eq_nil_iff.2 (fun v hv => by rw [h v hv]; simp)]
  rfl
theorem fullK_bits {x : List UInt8} {n m : Nat} (hx : x.length = m) (hn : n ≤ 8 * m) (h : ∀ t, n ≤ t → t < 8 * m → hasBit x t = false) : fullK x = cntL ((List.range n).map (hasBit x)) := by
  have h1 := fullK_cnt x x.length (Nat.le_refl _)
  rw [List.take_length, hx, show 8 * m = n + (8 * m - n) by omega, List.range_add, List.map_append, cntL_append, List.map_map] at h1
  rw [h1, cntL_none (l := List.map (hasBit x ∘ fun y => n + y) _) (fun v hv => by
    obtain ⟨t, ht, rfl⟩ := List.mem_map.1 hv
    exact h (n + t) (by omega) (by have := List.mem_range.1 ht; omega))]
  rfl
end Go.Proofs.YthppbefemfkccaaDoor
