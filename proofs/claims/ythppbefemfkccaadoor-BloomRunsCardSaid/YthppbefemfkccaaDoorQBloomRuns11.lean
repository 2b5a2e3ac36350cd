/- The document's filter: whether a key may be there, and a key laid in: contracts. Numbers as bytes: their order, and that they are taken off as they were: plain numbers. What the document's writer does: contracts. A filter as bytes, and what must come whatever the input is: contracts. -/
import Derived.Test.YthppbefemfkccaaDoorQBloomRuns5
import Derived.Test.YthppbefemfkccaaDoorQBloomRuns10
import Derived.Deep.DeepCutAuto
import GoSem.Op.String
import Derived.Test.YthppbefemfkccaaDoorQBloomRuns8
import Derived.Test.YthppbefemfkccaaDoorQBloomRuns3
import Derived.Test.YthppbefemfkccaaDoorQBloomRuns2
namespace Go.Proofs.YthppbefemfkccaaDoor
open Go.RowKit
attribute [local irreducible] bitsK orAll

theorem bitsL_get (n : Nat) (x : List UInt8) (j : Nat) (h : j < n) : (bitsL n x)[j]? = some (.bool (hasBit x j)) := by
  unfold bitsL
  rw [List.getElem?_map, List.getElem?_range h]
  rfl
theorem bitsL_len (n : Nat) (x : List UInt8) : (bitsL n x).length = n := by simp [bitsL]
theorem bitsL_cell {n : Nat} {x : List UInt8} {w : World} {A : Option Addr} (h : Rd w A n 1 (bitsL n x)) {j : Nat} (hj : j < n) : ∃ a, A = some a ∧ w.cell? (a.add j) = some (.bool (hasBit x j)) := by
  obtain ⟨a, ha, k⟩ := h.at_ (k := j) (by rw [bitsL_len]; exact hj)
  refine ⟨a, ha, ?_⟩
  rw [k]
  have := bitsL_get n x j hj
  rw [List.getElem?_eq_getElem (by rw [bitsL_len]; exact hj)] at this
  exact this
set_option maxHeartbeats 4000000 in
theorem rmay_any (A0 : Option Addr) (c0 n k : Nat) (x : List UInt8) (s : List UInt8) (w : World) (hr : Rd w A0 n 1 (bitsL n x)) (hn : 1 ≤ n ∧ n ≤ 1048576) (hk : 1 ≤ k ∧ k ≤ 16) (hs : s.length ≤ 140737488351232) :
    Calls Tryd.prog 20 #[.agg #[.int .i64 (k : Int), .slice A0 n c0], .string (strB s)] w fun e w' => e = .returned (.bool (mayK x (bitsK n k s))) ∧ Keeps [] w w' := by
  have HR := Lib.hid hr
  have HN := Lib.hid (show ∀ j ∈ bitsK n k s, j < n from fun j hj => bitsK_lt (by omega) hj)
  have HLK := Lib.hid (bitsK_len n k s)
  have HBITS := Lib.hid (fun W => rbits_gen A0 c0 n k s W hn hk hs)
  obtain ⟨L, hL⟩ : ∃ L, L = bitsK n k s := ⟨_, rfl⟩
  unfold RBitsF at HBITS
  rw [← hL] at HN HLK HBITS ⊢
  have H0 := Lib.hid (show (w.alloc (.cells #[.int .i64 (k : Int), .slice A0 n c0] 31)).heap[w.heap.size]? = some (.cells #[.int .i64 (k : Int), .slice A0 n c0] 31 (0, 0)) ∧ Keeps [] w (w.alloc (.cells #[.int .i64 (k : Int), .slice A0 n c0] 31)) from ⟨heap_alloc_new _ _, (Keeps.refl [] w).alloc _⟩)
  obtain ⟨hn1, hn2⟩ := hn
  obtain ⟨hk1, hk2⟩ := hk
  clear hr hs hL
  go_enter Tryd.func20, Tryd.ntmps20
  go_wp2_with fail
  refine (HBITS.out _).mono ?_
  rintro e w1 ⟨A1, c1, rfl, hib, hk1', _⟩
  have INV := Lib.hid (show w1.heap[w.heap.size]? = some (.cells #[.int .i64 (k : Int), .slice A0 n c0] 31 (0, 0)) ∧ Rd w1 A1 k 1 (encI L) ∧ Rd w1 A0 n 1 (bitsL n x) ∧ Keeps [] w w1 from ⟨(hk1'.block _ (lt_of_block H0.out.1) (by simp)).trans H0.out.1, hib, HR.out.keeps0 (H0.out.2.trans hk1' (by simp)), H0.out.2.trans hk1' (by simp)⟩)
  clear hib hk1' HBITS H0
  have INV0 := Lib.hid (show mayK x (L.take 0) = true from rfl)
  go_wp2_with fail
  have INK := Lib.hid (Keeps.refl [] w1)
  go_loopw [6] (fun si wr => ∃ i : Nat, i ≤ k ∧ si = .int .i64 i ∧ Hid (mayK x (L.take i) = true) ∧ Hid (Keeps [] w1 wr)) (fun si _ => k - (intOf si).toNat)
  case atStart => exact ⟨0, Nat.zero_le _, rfl, INV0.out, INK.out⟩
  case round =>
    clear INV0 INK
    obtain ⟨i, hi, rfl, hmay, hkr⟩ := hrel
    by_cases hlt : i < k
    · have hik : (i : Int) < (k : Int) := by omega
      have HIL := Lib.hid (show i < L.length by rw [HLK.out]; exact hlt)
      obtain ⟨j, hj⟩ : ∃ j, j = L[i]'(HIL.out) := ⟨_, rfl⟩
      have hjn : j < n := by rw [hj]; exact HN.out _ (List.getElem_mem _)
      have q0 : wr.cell? ⟨w.heap.size, 1, none⟩ = some (.slice A0 n c0) := hkr.out.cell (by rw [cell_of_row _ _ _ _ _ _ INV.out.1]; rfl) (by simp)
      obtain ⟨a1, rfl, k1⟩ := (INV.out.2.1.keeps0 hkr.out).at_ (k := i) (by simpa using HIL.out)
      rw [encI_get L i HIL.out, ← hj] at k1
      obtain ⟨a0, rfl, k0⟩ := bitsL_cell (INV.out.2.2.1.keeps0 hkr.out) hjn
      have HSN := Lib.hid (show mayK x (L.take (i + 1)) = (mayK x (L.take i) && hasBit x j) by
        unfold mayK
        rw [List.take_succ_eq_append_getElem HIL.out, List.all_append, ← hj]
        simp)
      have HSF := Lib.hid (show hasBit x j = false → mayK x L = false from fun hf => by
        unfold mayK
        rw [List.all_eq_false]
        exact ⟨j, by rw [hj]; exact List.getElem_mem _, by simp [hf]⟩)
      have hjI : (j : Int) < (n : Int) := by omega
      obtain ⟨t, ht⟩ : ∃ t, t = hasBit x j := ⟨_, rfl⟩
      rw [← ht] at k0 HSN HSF
      have HKK := Lib.hid (And.intro q0 (And.intro k1 k0))
      clear hj hjn ht q0 k1 k0
      go_upto_region 5 with fail
      have qa : ∀ z : World, (z.cell? ⟨w.heap.size, 1, none⟩ = some (.slice (some a0) n c0) ∧ z.cell? (a1.add i) = some (.int .i64 (j : Int)) ∧ z.cell? (a0.add j) = some (.bool t)) → z.cell? ⟨w.heap.size, 1, none⟩ = some (.slice (some a0) n c0) := fun z hz => hz.1
      have qb : ∀ z : World, (z.cell? ⟨w.heap.size, 1, none⟩ = some (.slice (some a0) n c0) ∧ z.cell? (a1.add i) = some (.int .i64 (j : Int)) ∧ z.cell? (a0.add j) = some (.bool t)) → z.cell? (a1.add i) = some (.int .i64 (j : Int)) := fun z hz => hz.2.1
      have qc : ∀ z : World, (z.cell? ⟨w.heap.size, 1, none⟩ = some (.slice (some a0) n c0) ∧ z.cell? (a1.add i) = some (.int .i64 (j : Int)) ∧ z.cell? (a0.add j) = some (.bool t)) → z.cell? (a0.add j) = some (.bool t) := fun z hz => hz.2.2
      refine seq_start (by kernel_rfl) (fun z => z.cell? ⟨w.heap.size, 1, none⟩ = some (.slice (some a0) n c0) ∧ z.cell? (a1.add i) = some (.int .i64 (j : Int)) ∧ z.cell? (a0.add j) = some (.bool t)) 9 [0, 1, 2, 3, 4, 5, 6, 7, 8] rfl (HKK.out) (fun hS => ?_)
      refine seq_take (v := ?_) rfl (by kernel_rfl) (by kernel_rfl) (by kernel_rfl) (Or.inl ⟨by rfl, fun w' hSw => ?_⟩) (by assumption) ?_
      rotate_left
      · go_simp
        with_reducible rfl
      simp only [Act.put, List.setIfInBounds_toArray, List.set_cons_zero, List.set_cons_succ]
      refine seq_take (v := ?_) rfl (by kernel_rfl) (by kernel_rfl) (by kernel_rfl) (Or.inl ⟨by rfl, fun w' hSw => ?_⟩) (by assumption) ?_
      rotate_left
      · go_simp
        with_reducible rfl
      simp only [Act.put, List.setIfInBounds_toArray, List.set_cons_zero, List.set_cons_succ]
      refine seq_take (v := ?_) rfl (by kernel_rfl) (by kernel_rfl) (by kernel_rfl) (Or.inl ⟨by rfl, fun w' hSw => ?_⟩) (by assumption) ?_
      rotate_left
      · go_simp
        with_reducible rfl
      simp only [Act.put, List.setIfInBounds_toArray, List.set_cons_zero, List.set_cons_succ]
      refine seq_take (v := ?_) rfl (by kernel_rfl) (by kernel_rfl) (by kernel_rfl) (Or.inl ⟨by rfl, fun w' hSw => ?_⟩) (by assumption) ?_
      rotate_left
      · go_simp
        with_reducible rfl
      simp only [Act.put, List.setIfInBounds_toArray, List.set_cons_zero, List.set_cons_succ]
      refine seq_take (v := ?_) rfl (by kernel_rfl) (by kernel_rfl) (by kernel_rfl) (Or.inl ⟨by rfl, fun w' hSw => ?_⟩) (by assumption) ?_
      rotate_left
      · go_simp
        with_reducible rfl
      simp only [Act.put, List.setIfInBounds_toArray, List.set_cons_zero, List.set_cons_succ]
      refine seq_take (v := ?_) rfl (by kernel_rfl) (by kernel_rfl) (by kernel_rfl) (Or.inl ⟨by rfl, fun w' hSw => ?_⟩) (by assumption) ?_
      rotate_left
      · go_simp
        with_reducible rfl
      simp only [Act.put, List.setIfInBounds_toArray, List.set_cons_zero, List.set_cons_succ]
      refine seq_take (v := ?_) rfl (by kernel_rfl) (by kernel_rfl) (by kernel_rfl) (Or.inl ⟨by rfl, fun w' hSw => ?_⟩) (by assumption) ?_
      rotate_left
      · go_simp
        with_reducible rfl
      simp only [Act.put, List.setIfInBounds_toArray, List.set_cons_zero, List.set_cons_succ]
      refine seq_take (v := ?_) rfl (by kernel_rfl) (by kernel_rfl) (by kernel_rfl) (Or.inl ⟨by rfl, fun w' hSw => ?_⟩) (by assumption) ?_
      rotate_left
      · go_simp
        with_reducible rfl
      simp only [Act.put, List.setIfInBounds_toArray, List.set_cons_zero, List.set_cons_succ]
      refine seq_take (v := ?_) rfl (by kernel_rfl) (by kernel_rfl) (by kernel_rfl) (Or.inl ⟨by rfl, fun w' hSw => ?_⟩) (by assumption) ?_
      rotate_left
      · go_simp
        with_reducible rfl
      simp only [Act.put, List.setIfInBounds_toArray, List.set_cons_zero, List.set_cons_succ]
      refine seq_done (by kernel_rfl) ?_
      all_goals skip
      have HKR := Lib.hid hkr.out.drew
      clear qa qb qc hS HKK hkr
      generalize wr.drew = V at HKR ⊢
      cases t with
      | false =>
        have HRR := Lib.hid (HSF.out rfl)
        go_wp2_with fail
        go_ret
        exact ⟨by rw [HRR.out]; rfl, INV.out.2.2.2.trans HKR.out (by simp)⟩
      | true =>
        have HRR := Lib.hid (show mayK x (L.take (i + 1)) = true by rw [HSN.out, hmay.out]; rfl)
        go_wp2_with fail
        go_roundw
        case rel => exact ⟨i + 1, by omega, by go_num, HRR.out, HKR.out⟩
        case measure => simp [intOf]; omega
    · have hik : ¬ (i : Int) < (k : Int) := by omega
      have HKI := Lib.hid (show mayK x L = true by have h2 := hmay.out; rwa [List.take_of_length_le (by rw [HLK.out]; omega)] at h2)
      clear hlt
      go_wp2_with fail
      go_ret
      exact ⟨by rw [HKI.out]; rfl, INV.out.2.2.2.trans hkr.out (by simp)⟩
end Go.Proofs.YthppbefemfkccaaDoor
namespace Go.Proofs.YthppbefemfkccaaDoor
open Go.RowKit

theorem bh_mono {n m : Nat} (h : n ≤ m) : bh n ≤ bh m := by
  rcases Nat.lt_or_ge (bh m) (bh n) with hlt | hge
  · exfalso
    have h8 := bh_le n
    have h1 := (bh_spec m).1 (by omega)
    have h2 := (bh_spec n).2 (by omega)
    have h3 : (2 : Nat) ^ (7 * bh m + 7) ≤ 2 ^ (7 * bh n) := Nat.pow_le_pow_right (by omega) (by omega)
    omega
  · exact hge
theorem bh_lt {n m : Nat} (h : bh n < bh m) : n < m := by
  rcases Nat.lt_or_ge n m with h1 | h1
  · exact h1
  · have := bh_mono h1
    omega

theorem first_nat (n : Nat) (hn : n < 18446744073709551616) : (UInt8.ofNat (256 - 2 ^ (8 - bh n) + n / 2 ^ (8 * bh n))).toNat = 256 - 2 ^ (8 - bh n) + n / 2 ^ (8 * bh n) ∧
    (bh n < 8 → 256 - 2 ^ (8 - bh n) + n / 2 ^ (8 * bh n) < 256 - 2 ^ (7 - bh n)) ∧ 256 - 2 ^ (8 - bh n) + n / 2 ^ (8 * bh n) < 256 := by
  have h8 := bh_le n
  have key : (bh n < 8 → 256 - 2 ^ (8 - bh n) + n / 2 ^ (8 * bh n) < 256 - 2 ^ (7 - bh n)) ∧ 256 - 2 ^ (8 - bh n) + n / 2 ^ (8 * bh n) < 256 := by
    by_cases hk : bh n < 8
    · have hx := bh_top n hk
      have h1 : (1 : Nat) ≤ 2 ^ (7 - bh n) := Nat.one_le_two_pow
      have h2 : (2 : Nat) ^ (7 - bh n) ≤ 128 := Nat.pow_le_pow_right (by omega) (show 7 - bh n ≤ 7 by omega)
      have h3 : (2 : Nat) ^ (8 - bh n) = 2 * 2 ^ (7 - bh n) := by rw [show 8 - bh n = (7 - bh n) + 1 by omega, Nat.pow_succ, Nat.mul_comm]
      omega
    · have hk' : bh n = 8 := by omega
      rw [bh_top8 n hn hk', hk']
      simp
  refine ⟨?_, key⟩
  rw [UInt8.toNat_ofNat']
  exact Nat.mod_eq_of_lt key.2

theorem lead_pin : ∀ b : Fin 256, ∀ k : Fin 9, 256 - 2 ^ (8 - k.val) ≤ b.val → (k.val < 8 → b.val < 256 - 2 ^ (7 - k.val)) → 8 - Lib.bitLen (255 - b.val) = k.val := by decide +kernel
theorem lead_uint (n : Nat) (hn : n < 18446744073709551616) : lead (UInt8.ofNat (256 - 2 ^ (8 - bh n) + n / 2 ^ (8 * bh n))) = bh n := by
  obtain ⟨h1, h2, h3⟩ := first_nat n hn
  have h8 := bh_le n
  unfold lead
  rw [h1]
  exact lead_pin ⟨_, h3⟩ ⟨bh n, by omega⟩ (Nat.le_add_right _ _) h2
theorem tail_uint (n : Nat) (hn : n < 18446744073709551616) : tail (UInt8.ofNat (256 - 2 ^ (8 - bh n) + n / 2 ^ (8 * bh n))) = n / 2 ^ (8 * bh n) := by
  obtain ⟨h1, _, _⟩ := first_nat n hn
  unfold tail
  rw [lead_uint n hn, h1]
  exact Nat.add_sub_cancel_left _ _

/-- The bytes are the number again. -/
theorem acc_be_take (k n j : Nat) (hj : j ≤ k) : acc (n / 2 ^ (8 * k)) ((be k n).take j) = n / 2 ^ (8 * (k - j)) := by
  induction j with
  | zero => simp [acc]
  | succ j ih =>
    rw [be_take k n j (by omega), acc_snoc, ih (by omega), UInt8.toNat_ofNat', Nat.mod_mod]
    have e : 8 * (k - j) = 8 * (k - (j + 1)) + 8 := by omega
    have e2 : k - 1 - j = k - (j + 1) := by omega
    rw [e, e2, Nat.pow_add, ← Nat.div_div_eq_div_mul]
    show n / 2 ^ (8 * (k - (j + 1))) / 256 * 256 + n / 2 ^ (8 * (k - (j + 1))) % 256 = _
    omega
theorem acc_be (k n : Nat) : acc (n / 2 ^ (8 * k)) (be k n) = n := by
  have := acc_be_take k n k (Nat.le_refl k)
  rw [List.take_of_length_le (by simp)] at this
  simpa using this
/-- What was laid is taken off. -/
theorem numB_uint (n : Nat) (hn : n < 18446744073709551616) (rest : List UInt8) : numB (uintB n ++ rest) = (n, bh n + 1, 0) := by
  unfold uintB
  rw [List.cons_append, numB_cons, lead_uint n hn, tail_uint n hn, if_neg (by simp), List.take_append_of_le_length (by simp), List.take_of_length_le (by simp), acc_be, if_pos rfl]

/-! ## The order -/
theorem less_acc (l1 : List UInt8) : ∀ (l2 : List UInt8), l1.length = l2.length → ∀ a b, (acc a l1 < acc b l2) ↔ (a < b ∨ (a = b ∧ Op.bytesLess l1 l2 = true)) := by
  induction l1 with
  | nil =>
    intro l2 h a b
    obtain rfl : l2 = [] := List.eq_nil_of_length_eq_zero h.symm
    simp [acc, Op.bytesLess]
  | cons c l1 ih =>
    intro l2 h a b
    rcases l2 with _ | ⟨d, l2⟩
    · simp at h
    · have h' : l1.length = l2.length := by simpa using h
      have hc := c.toNat_lt
      have hd := d.toNat_lt
      have hi := ih l2 h' (a * 256 + c.toNat) (b * 256 + d.toNat)
      have e : (acc a (c :: l1) < acc b (d :: l2)) ↔ (acc (a * 256 + c.toNat) l1 < acc (b * 256 + d.toNat) l2) := Iff.rfl
      rw [e, hi]
      have e2 : Op.bytesLess (c :: l1) (d :: l2) = true ↔ (c.toNat < d.toNat ∨ (c.toNat = d.toNat ∧ Op.bytesLess l1 l2 = true)) := by
        simp only [Op.bytesLess, Bool.or_eq_true, decide_eq_true_eq, Bool.and_eq_true, beq_iff_eq, UInt8.lt_iff_toNat_lt, ← UInt8.toNat_inj]
      rw [e2]
      generalize Op.bytesLess l1 l2 = z
      constructor
      · rintro (h | ⟨h, hz⟩)
        · rcases Nat.lt_trichotomy a b with h2 | h2 | h2
          · exact .inl h2
          · exact .inr ⟨h2, .inl (by omega)⟩
          · omega
        · exact .inr ⟨by omega, .inr ⟨by omega, hz⟩⟩
      · rintro (h | ⟨h, h2 | ⟨h2, hz⟩⟩)
        · exact .inl (by omega)
        · exact .inl (by omega)
        · exact .inr ⟨by omega, hz⟩
theorem uint_less (n m : Nat) (hn : n < 18446744073709551616) (hm : m < 18446744073709551616) : Op.bytesLess (uintB n) (uintB m) = decide (n < m) := by
  obtain ⟨n1, n2, n3⟩ := first_nat n hn
  obtain ⟨m1, m2, m3⟩ := first_nat m hm
  have hn8 := bh_le n
  have hm8 := bh_le m
  have e2 : ∀ (c d : UInt8) (l1 l2 : List UInt8), Op.bytesLess (c :: l1) (d :: l2) = true ↔ (c.toNat < d.toNat ∨ (c.toNat = d.toNat ∧ Op.bytesLess l1 l2 = true)) := fun c d l1 l2 => by
    simp only [Op.bytesLess, Bool.or_eq_true, decide_eq_true_eq, Bool.and_eq_true, beq_iff_eq, UInt8.lt_iff_toNat_lt, ← UInt8.toNat_inj]
  have pw : ∀ i j : Nat, i < j → j ≤ 8 → (2 : Nat) ^ (8 - j) ≤ 2 ^ (7 - i) := fun i j h h8 => Nat.pow_le_pow_right (by omega) (by omega)
  rw [Bool.eq_iff_iff, decide_eq_true_iff]
  unfold uintB
  rw [e2, n1, m1]
  obtain ⟨qn, hqn⟩ : ∃ q, q = n / 2 ^ (8 * bh n) := ⟨_, rfl⟩
  obtain ⟨qm, hqm⟩ : ∃ q, q = m / 2 ^ (8 * bh m) := ⟨_, rfl⟩
  rw [← hqn] at n2 n3 ⊢
  rw [← hqm] at m2 m3 ⊢
  rcases Nat.lt_trichotomy (bh n) (bh m) with h | h | h
  · have := pw _ _ h hm8
    have h1 := n2 (by omega)
    have h2 := bh_lt h
    have h3 : (2 : Nat) ^ (7 - bh n) ≤ 128 := Nat.pow_le_pow_right (by omega) (show 7 - bh n ≤ 7 by omega)
    constructor
    · intro _; exact h2
    · intro _; left; omega
  · have := less_acc (be (bh n) n) (be (bh n) m) (by simp) (n / 2 ^ (8 * bh n)) (m / 2 ^ (8 * bh n))
    rw [acc_be, acc_be] at this
    rw [← h] at hqm ⊢
    rw [← hqn, ← hqm] at this
    rw [this]
    generalize Op.bytesLess (be (bh n) n) (be (bh n) m) = z
    constructor
    · rintro (h | ⟨h, hz⟩)
      · exact .inl (by omega)
      · exact .inr ⟨by omega, hz⟩
    · rintro (h | ⟨h, hz⟩)
      · exact .inl (by omega)
      · exact .inr ⟨by omega, hz⟩
  · have := pw _ _ h hn8
    have h1 := m2 (by omega)
    have h2 := bh_lt h
    have h3 : (2 : Nat) ^ (7 - bh m) ≤ 128 := Nat.pow_le_pow_right (by omega) (show 7 - bh m ≤ 7 by omega)
    constructor
    · rintro (h | ⟨h, _⟩) <;> omega
    · intro _; omega
end Go.Proofs.YthppbefemfkccaaDoor
namespace Go.Proofs.YthppbefemfkccaaDoor
open Go.RowKit

theorem own02_any (A : Option Addr) (l : List UInt8) (c : Nat) (w : World) (hl : l.length ≤ 140737488355328) (hr : RdB w A l) :
    Calls Tryd.prog 57 #[.slice A l.length c] w (NewB 5 l w) := by
  have HR := Lib.hid hr
  clear hr
  go_enter Tryd.func57, Tryd.ntmps57
  go_wp2_with (at_builtin; refine wpList_appendB rfl (.tmp 4) (.tmp 5) 44 5 rfl Tryd.underlying44 infoB none 0 [] rfl (OwnB.nil _ _) A c l rfl HR.out (by simp <;> omega) ?_; intro A' c' w' l' hl' ho hk hb)
  go_ret
  refine ⟨A', c', l', hl', rfl, ho, fun a ha => ?_, hk⟩
  rcases hb a ha with h | h
  · simp [blk] at h
  · exact h

theorem be_drop (k n j : Nat) (hj : j < k) : (be k n).drop (k - (j + 1)) = UInt8.ofNat (n / 2 ^ (8 * j) % 256) :: (be k n).drop (k - j) := by
  have h : k - (j + 1) < (be k n).length := by simp; omega
  rw [List.drop_eq_getElem_cons h, show k - (j + 1) + 1 = k - j by omega]
  congr 1
  simp only [be, List.getElem_map, List.getElem_range]
  rw [show k - 1 - (k - (j + 1)) = j by omega]

set_option maxHeartbeats 1000000 in
theorem refuintw_any (A : Option Addr) (l : List UInt8) (c : Nat) (n : Nat) (w : World) (hl : l.length + 20 ≤ 140737488355328) (hr : RdB w A l) (hn : n < 18446744073709551616) :
    Calls Tryd.prog 39 #[.slice A l.length c, .int .u64 n] w (NewB 5 (l ++ uintB n) w) := by
  have HR := Lib.hid hr
  have hk8 := bh_le n
  clear hr
  go_enter Tryd.func39, Tryd.ntmps39
  go_wp2_with fail
  refine (pkmore_any n _).mono ?_
  rintro e w' ⟨rfl, rfl⟩
  obtain ⟨k, hk⟩ : ∃ k, k = bh n := ⟨_, rfl⟩
  rw [← hk] at hk8 ⊢
  have HK := Lib.hid hk
  clear hk
  go_wp2_with fail
  go_loopw [1, 6, 7] (fun nn d i wr => ∃ j : Nat, ∃ (A' : Option Addr) (c' : Nat) (dl : List UInt8), j ≤ k ∧ i = .int .i64 j ∧ nn = .int .u64 ((n / 2 ^ (8 * j) : Nat) : Int) ∧ d = .slice A' dl.length c' ∧ Hid (dl = (be k n).drop (k - j)) ∧ Hid (OwnB 5 wr A' c' dl) ∧ Hid (∀ a, A' = some a → w.heap.size ≤ a.block) ∧ Hid (Keeps [] w wr)) (fun _ _ i _ => k - (intOf i).toNat)
  case atStart => exact ⟨0, none, 0, [], by omega, rfl, by simp, rfl, by show _ = _; simp, OwnB.nil _ _, by show ∀ a, _; simp, Keeps.refl [] w⟩
  case round =>
    obtain ⟨j, A1, c1, dl, hj, rfl, rfl, rfl, hd, hO, hN, hK⟩ := hrel
    by_cases hlt : j < k
    · obtain ⟨m, hm⟩ : ∃ m, m = n / 2 ^ (8 * j) := ⟨_, rfl⟩
      rw [← hm]
      have hmn : m ≤ n := by rw [hm]; exact Nat.div_le_self _ _
      have hm64 : (m : Int) < 18446744073709551616 := by omega
      have hdl : dl.length ≤ 9 := by rw [hd.out]; simp; omega
      obtain ⟨b, hb⟩ : ∃ b : UInt8, b = UInt8.ofNat (m % 256) := ⟨_, rfl⟩
      have hbi : ((m : Int) % 256) = (b.toNat : Int) := by rw [hb, UInt8.toNat_ofNat', Nat.mod_mod]; simp
      have HM := Lib.hid hm
      have HB := Lib.hid hb
      clear hm hb hmn
      go_wp2_with (at_builtin; first
        | (refine wpList_appendB rfl (.tmp 16) (.tmp 20) 44 5 rfl Tryd.underlying44 infoB none 0 [] rfl (OwnB.nil _ _) (some ⟨wr.heap.size, 0, none⟩) 1 [b] rfl (RdB.lit wr [b] 5 (0, 0)) (by simp) ?_; intro A2 c2 w2 l2 hl2 ho2 hk2 hb2; have HO2 := Lib.hid ho2; have HK2 := Lib.hid hk2; have HB2 := Lib.hid hb2; have hl2l : l2.length ≤ 1 := by { rw [hl2.out]; simp }; clear ho2 hk2 hb2)
        | (refine wpList_appendB rfl (.tmp 21) (.tmp 22) 44 5 rfl Tryd.underlying44 infoB A2 c2 l2 rfl HO2.out A1 c1 dl rfl ((hO.out.rd.alloc _).keeps0 HK2.out) (by omega) ?_; intro A3 c3 w3 l3 hl3 ho3 hk3 hb3; have HO3 := Lib.hid ho3; have HK3 := Lib.hid hk3; have HB3 := Lib.hid hb3; clear ho3 hk3 hb3))
      have N2 : ∀ a, A2 = some a → w.heap.size ≤ a.block := fun a ha => by
        rcases HB2.out a ha with h | h
        · simp [blk] at h
        · have := hK.out.size; simp at h; omega
      have K2 : Keeps [] w w2 := (hK.out.alloc _).trans HK2.out (by simp [blk])
      go_roundw
      case rel =>
        refine ⟨j + 1, A3, c3, l3, by omega, by go_num, ?_, rfl, ?_, HO3.out, fresh_append HB3.out N2 K2.size, K2.fresh HK3.out N2⟩
        · have e : n / 2 ^ (8 * (j + 1)) = m / 256 := by rw [HM.out, Nat.div_div_eq_div_mul, show 8 * (j + 1) = 8 * j + 8 by omega, Nat.pow_add]
          rw [e]
          simp
        · show _ = _
          rw [hl3.out, hl2.out, hd.out, be_drop k n j hlt, HB.out, HM.out]
          simp
      case measure => simp [intOf]; omega
    · have hjk : j = k := by omega
      have hji : ¬ (j : Int) < (k : Int) := by omega
      obtain ⟨m, hm⟩ : ∃ m, m = n / 2 ^ (8 * j) := ⟨_, rfl⟩
      rw [← hm]
      obtain ⟨O, hO2⟩ : ∃ O, O = 256 - 2 ^ (8 - k) := ⟨_, rfl⟩
      obtain ⟨f1, _, f3⟩ := first_nat n hn
      rw [← HK.out, ← hjk, ← hm, hjk, ← hO2] at f1 f3
      obtain ⟨f, hf⟩ : ∃ f : UInt8, f = UInt8.ofNat (O + m) := ⟨_, rfl⟩
      rw [← hf] at f1
      have HAW := Lib.hid (show IntKind.u8.wrap ((O : Int) + (m : Int)) = (f.toNat : Int) by rw [IntKind.wrap_u8, f1]; omega)
      have HMW := Lib.hid (show IntKind.u8.wrap (m : Int) = (m : Int) by rw [IntKind.wrap_u8]; omega)
      have HFE := Lib.hid (show uintB n = f :: be k n by unfold uintB; rw [← HK.out, hf, hO2, hm, hjk])
      have HO2 := Lib.hid hO2
      have hdl : dl.length ≤ 9 := by rw [hd.out]; simp; omega
      have HDL := Lib.hid (show dl = be k n by rw [hd.out, hjk]; simp)
      clear hm hO2 f1 f3 hf hlt hjk hj
      go_wp2_with fail
      refine (own02_any A l c _ (by omega) (HR.out.keeps0 hK.out)).mono ?_
      rintro e w2 ⟨A2, c2, l2, hl2, rfl, ho2, hn2, hk2⟩
      obtain rfl : l2 = l := hl2.out
      have HO := Lib.hid ho2
      have N2 := Lib.hid (show ∀ a, A2 = some a → w.heap.size ≤ a.block from fun a ha => Nat.le_trans hK.out.size (hn2 a ha))
      have HD2 := Lib.hid (hO.out.rd.keeps0 hk2)
      have N2w := Lib.hid hn2
      have L1 := Lib.hid hO.out.lt
      have K2 := Lib.hid (hK.out.trans hk2 (by simp))
      clear ho2 hn2 hk2
      go_wp2_with fail
      refine (pkones_any k _ hk8).mono ?_
      rw [← HO2.out]
      rintro e w' ⟨rfl, rfl⟩
      have haw := HAW.out
      have hmw := HMW.out
      go_wp2_with (at_builtin; first
        | (refine wpList_appendB rfl (.tmp 27) (.tmp 33) 44 5 rfl Tryd.underlying44 infoB A2 c2 l2 rfl (HO.out.alloc _) (some ⟨w2.heap.size, 0, none⟩) 1 [f] rfl (RdB.lit w2 [f] 5 (0, 0)) (by simp; omega) ?_; intro A3 c3 w3 l3 hl3 ho3 hk3 hb3; have HO3 := Lib.hid ho3; have HK3 := Lib.hid hk3; have HB3 := Lib.hid hb3; have hl3b : l3.length ≤ l2.length + 1 := by { rw [hl3.out]; simp }; clear ho3 hk3 hb3)
        | (refine wpList_appendB rfl (.tmp 34) (.tmp 35) 44 5 rfl Tryd.underlying44 infoB A3 c3 l3 rfl HO3.out A1 c1 dl rfl ((HD2.out.alloc _).keeps HK3.out (fun a ha h hm => by { obtain ⟨a2, e2, e3⟩ := mem_blk.1 hm; have q1 := N2w.out a2 e2; have q2 := L1.out a ha; omega })) (by omega) ?_; intro A4 c4 w4 l4 hl4 ho4 hk4 hb4; have HO4 := Lib.hid ho4; have HK4 := Lib.hid hk4; have HB4 := Lib.hid hb4; clear ho4 hk4 hb4))
      go_ret
      have K3 := (K2.out.alloc (.cells #[.int .u8 (f.toNat : Int)] 5)).fresh HK3.out N2.out
      have N3 := fresh_append HB3.out N2.out (Nat.le_trans K2.out.size (by simp))
      refine ⟨A4, c4, l4, ?_, rfl, HO4.out, fresh_append HB4.out N3 K3.size, K3.fresh HK4.out N3⟩
      show _ = _
      rw [hl4.out, hl3.out, HDL.out, HFE.out]
      simp

theorem refbytesw_any (A : Option Addr) (l : List UInt8) (c : Nat) (A0 : Option Addr) (x : List UInt8) (c0 : Nat) (w : World) (hl : l.length + x.length + 20 ≤ 140737488355328) (hr : RdB w A l) (hx : RdB w A0 x) :
    Calls Tryd.prog 38 #[.slice A l.length c, .slice A0 x.length c0] w (NewB 5 (l ++ (uintB x.length ++ x)) w) := by
  have HR := Lib.hid hr
  have HX := Lib.hid hx
  clear hr hx
  go_enter Tryd.func38, Tryd.ntmps38
  go_wp2_with fail
  refine (refuintw_any A l c x.length _ (by omega) HR.out (by omega)).mono ?_
  rintro e w2 ⟨A2, c2, l2, hl2, rfl, ho2, hn2, hk2⟩
  have hlen2 : l2.length ≤ l.length + 9 := by rw [hl2.out]; have := length_uintB_le x.length; simp at this ⊢; omega
  have HO := Lib.hid ho2
  have N2 := Lib.hid hn2
  have K2 := Lib.hid hk2
  clear ho2 hn2 hk2
  go_wp2_with (at_builtin; refine wpList_appendB rfl (.tmp 9) (.tmp 10) 44 5 rfl Tryd.underlying44 infoB A2 c2 l2 rfl HO.out A0 c0 x rfl (HX.out.keeps0 K2.out) (by omega) ?_; intro A3 c3 w3 l3 hl3 ho3 hk3 hb3; have HO3 := Lib.hid ho3; have HK3 := Lib.hid hk3; have HB3 := Lib.hid hb3; clear ho3 hk3 hb3)
  go_ret
  exact ⟨A3, c3, l3, by show _ = _; rw [hl3.out, hl2.out]; simp, rfl, HO3.out, fresh_append HB3.out N2.out K2.out.size, K2.out.fresh HK3.out N2.out⟩

end Go.Proofs.YthppbefemfkccaaDoor
namespace Go.Proofs.YthppbefemfkccaaDoor
open Go.RowKit
theorem a_bits : bitsK 8 1 [97] = [2] := by decide
theorem a_not : mayK [0] [2] = false := by decide
theorem a_or : orAll [0] [2] = [4] := by decide
theorem a_full : fullK [4] = 1 := by decide
theorem a_may : mayK [4] [2] = true := by decide
attribute [local irreducible] bitsK orAll

def encK (n k : Nat) (bs : List UInt8) : List UInt8 := uintB n ++ uintB k ++ lenB bs
/-- A writer of one's own beside a filter. -/
def Wf2 (w0 w : World) (g n k : Nat) (A : Option Addr) (c : Nat) (bs : List UInt8) (gw : Nat) (out : List UInt8) : Prop :=
  ∃ A2 c2 o, Hid (o = out) ∧ Wr w gw A2 c2 o ∧ Fm w g n k A c bs ∧ Keeps [] w0 w ∧ w0.heap.size ≤ gw ∧ ∀ a, A2 = some a → w0.heap.size ≤ a.block
theorem Wf2.step {w0 w w' : World} {g n k : Nat} {A : Option Addr} {c : Nat} {bs : List UInt8} {gw : Nat} {s : List UInt8} {A2 : Option Addr} (hf : Fm w g n k A c bs) (hf0 : Fm w0 g n k A c bs) (hk : Keeps [] w0 w) (hg : w0.heap.size ≤ gw)
    (hA : ∀ a, A2 = some a → w0.heap.size ≤ a.block) (hst : WrStep gw A2 s w w') : Wf2 w0 w' g n k A c bs gw s := by
  obtain ⟨A3, c3, o3, ho, hw3, hk3, hn3⟩ := hst
  have hlt := hf0.lt
  have hltA := fun a ha => hf0.2.1.lt a ha
  have hni : ∀ t ∈ gw :: blk A2, w0.heap.size ≤ t := by
    intro t ht
    rcases List.mem_cons.1 ht with rfl | ht
    · exact hg
    · obtain ⟨a, ha, rfl⟩ := mem_blk.1 ht
      exact hA a ha
  refine ⟨A3, c3, o3, ho, hw3, hf.keeps hk3 (fun hm => by have := hni _ hm; omega) (fun a ha hm => by have := hni _ hm; have := hltA a ha; omega), hk.trans hk3 (fun t ht => .inr (hni t ht)), hg, fun a ha => ?_⟩
  rcases hn3 a ha with h | h
  · obtain ⟨a1, e1, e2⟩ := mem_blk.1 h
    have := hA a1 e1
    omega
  · exact Nat.le_trans hk.size h
set_option maxHeartbeats 4000000 in
theorem enc_any (g n k : Nat) (A : Option Addr) (c : Nat) (bs : List UInt8) (w : World) (h : Fm w g n k A c bs) (hn : n ≤ 1048576) (hk : k ≤ 16) (hb : bs.length ≤ 1048576) :
    Calls Tryd.prog 17 #[.pointer (some ⟨g, 0, none⟩)] w (NewB 5 (encK n k bs) w) := by
  have H := Lib.hid h
  have HB := Lib.hid (And.intro (And.intro hn hk) hb)
  have qa : ∀ z : World, Fm z g n k A c bs → z.cell? ⟨g, 0, none⟩ = some (.int .i64 (n : Int)) := fun z hz => hz.cells.1
  have qb : ∀ z : World, Fm z g n k A c bs → z.cell? ⟨g, 1, none⟩ = some (.int .i64 (k : Int)) := fun z hz => hz.cells.2.1
  have qc : ∀ z : World, Fm z g n k A c bs → z.cell? ⟨g, 2, none⟩ = some (.slice A bs.length c) := fun z hz => hz.cells.2.2
  have f1 : IntKind.u64.wrap (n : Int) = (n : Int) := by rw [IntKind.wrap_u64]; omega
  have f2 : IntKind.u64.wrap (k : Int) = (k : Int) := by rw [IntKind.wrap_u64]; omega
  clear h hn hk hb
  go_enter Tryd.func17, Tryd.ntmps17
  go_wp2_with fail
  refine seq_start (by kernel_rfl) (fun z => Fm z g n k A c bs) 20 [0, 1, 2, 3, 4, 5, 6, 7, 8, 9, 10, 11, 12, 13, 14, 15, 16, 17, 18, 19] rfl (H.out) (fun hS => ?_)
  have HD := Lib.hid (show Fm w.drew g n k A c bs ∧ Keeps [] w w.drew from ⟨H.out, (Keeps.refl [] w).drew⟩)
  generalize w.drew = V at HD hS ⊢
  iterate 1 (refine seq_later ?_; simp only [List.cons_append, List.nil_append])
  refine seq_take (v := ?_) rfl (by kernel_rfl) (by kernel_rfl) (by kernel_rfl) (Or.inl ⟨by rfl, fun w' hSw => ?_⟩) (by assumption) ?_
  rotate_left
  · go_simp
    with_reducible rfl
  simp only [Act.put, List.setIfInBounds_toArray, List.set_cons_zero, List.set_cons_succ]
  refine seq_take (v := ?_) rfl (by kernel_rfl) (by kernel_rfl) (by kernel_rfl) (Or.inl ⟨by rfl, fun w' hSw => ?_⟩) (by assumption) ?_
  rotate_left
  · go_simp
    with_reducible rfl
  simp only [Act.put, List.setIfInBounds_toArray, List.set_cons_zero, List.set_cons_succ]
  refine seq_take (v := ?_) rfl (by kernel_rfl) (by kernel_rfl) (by kernel_rfl) (Or.inl ⟨by rfl, fun w' hSw => ?_⟩) (by assumption) ?_
  rotate_left
  · go_simp
    with_reducible rfl
  simp only [Act.put, List.setIfInBounds_toArray, List.set_cons_zero, List.set_cons_succ]
  refine seq_take (v := ?_) rfl (by kernel_rfl) (by kernel_rfl) (by kernel_rfl) (Or.inl ⟨by rfl, fun w' hSw => ?_⟩) (by assumption) ?_
  rotate_left
  · go_simp
    with_reducible rfl
  simp only [Act.put, List.setIfInBounds_toArray, List.set_cons_zero, List.set_cons_succ]
  refine seq_take (v := ?_) rfl (by kernel_rfl) (by kernel_rfl) (by kernel_rfl) (Or.inl ⟨by rfl, fun w' hSw => ?_⟩) (by assumption) ?_
  rotate_left
  · go_simp
    with_reducible rfl
  simp only [Act.put, List.setIfInBounds_toArray, List.set_cons_zero, List.set_cons_succ]
  iterate 1 (refine seq_later ?_; simp only [List.cons_append, List.nil_append])
  refine seq_take (v := ?_) rfl (by kernel_rfl) (by kernel_rfl) (by kernel_rfl) (Or.inl ⟨by rfl, fun w' hSw => ?_⟩) (by assumption) ?_
  rotate_left
  · go_simp
    with_reducible rfl
  simp only [Act.put, List.setIfInBounds_toArray, List.set_cons_zero, List.set_cons_succ]
  refine seq_take (v := ?_) rfl (by kernel_rfl) (by kernel_rfl) (by kernel_rfl) (Or.inl ⟨by rfl, fun w' hSw => ?_⟩) (by assumption) ?_
  rotate_left
  · go_simp
    with_reducible rfl
  simp only [Act.put, List.setIfInBounds_toArray, List.set_cons_zero, List.set_cons_succ]
  refine seq_take (v := ?_) rfl (by kernel_rfl) (by kernel_rfl) (by kernel_rfl) (Or.inl ⟨by rfl, fun w' hSw => ?_⟩) (by assumption) ?_
  rotate_left
  · go_simp
    with_reducible rfl
  simp only [Act.put, List.setIfInBounds_toArray, List.set_cons_zero, List.set_cons_succ]
  refine seq_take (v := ?_) rfl (by kernel_rfl) (by kernel_rfl) (by kernel_rfl) (Or.inl ⟨by rfl, fun w' hSw => ?_⟩) (by assumption) ?_
  rotate_left
  · go_simp
    with_reducible rfl
  simp only [Act.put, List.setIfInBounds_toArray, List.set_cons_zero, List.set_cons_succ]
  refine seq_take (v := ?_) rfl (by kernel_rfl) (by kernel_rfl) (by kernel_rfl) (Or.inl ⟨by rfl, fun w' hSw => ?_⟩) (by assumption) ?_
  rotate_left
  · go_simp
    with_reducible rfl
  simp only [Act.put, List.setIfInBounds_toArray, List.set_cons_zero, List.set_cons_succ]
  iterate 1 (refine seq_later ?_; simp only [List.cons_append, List.nil_append])
  refine seq_take (v := ?_) rfl (by kernel_rfl) (by kernel_rfl) (by kernel_rfl) (Or.inl ⟨by rfl, fun w' hSw => ?_⟩) (by assumption) ?_
  rotate_left
  · go_simp
    with_reducible rfl
  simp only [Act.put, List.setIfInBounds_toArray, List.set_cons_zero, List.set_cons_succ]
  refine seq_take (v := ?_) rfl (by kernel_rfl) (by kernel_rfl) (by kernel_rfl) (Or.inl ⟨by rfl, fun w' hSw => ?_⟩) (by assumption) ?_
  rotate_left
  · go_simp
    with_reducible rfl
  simp only [Act.put, List.setIfInBounds_toArray, List.set_cons_zero, List.set_cons_succ]
  refine seq_take (v := ?_) rfl (by kernel_rfl) (by kernel_rfl) (by kernel_rfl) (Or.inl ⟨by rfl, fun w' hSw => ?_⟩) (by assumption) ?_
  rotate_left
  · go_simp
    with_reducible rfl
  simp only [Act.put, List.setIfInBounds_toArray, List.set_cons_zero, List.set_cons_succ]
  refine seq_take (v := ?_) rfl (by kernel_rfl) (by kernel_rfl) (by kernel_rfl) (Or.inl ⟨by rfl, fun w' hSw => ?_⟩) (by assumption) ?_
  rotate_left
  · go_simp
    with_reducible rfl
  simp only [Act.put, List.setIfInBounds_toArray, List.set_cons_zero, List.set_cons_succ]
  iterate 3 (refine seq_later ?_; simp only [List.cons_append, List.nil_append])
  refine seq_do rfl (by kernel_rfl) (by rfl) (fun K hK => ?_)
  go_simp
  refine (new_any V).mono ?_
  rintro e w1 ⟨rfl, hw1, hk1⟩
  have H1 := Lib.hid (show Fm w1 g n k A c bs ∧ Keeps [] w w1 ∧ w.heap.size ≤ V.heap.size ∧ Wr w1 V.heap.size none 0 [] from ⟨HD.out.1.keeps0 hk1, HD.out.2.trans hk1 (by simp), HD.out.2.size, hw1⟩)
  clear hw1 hk1
  obtain ⟨gw, hgw⟩ : ∃ gw, gw = V.heap.size := ⟨_, rfl⟩
  rw [← hgw] at H1 ⊢
  clear hgw
  refine hK.out (fun z => Fm z g n k A c bs) _ _ (fun _ h => h) H1.out.1 (fun hS => ?_)
  refine seq_do rfl (by kernel_rfl) (by rfl) (fun K hK => ?_)
  go_simp
  refine (uint_any n gw none 0 [] w1 (by have := HB.out.1.1; omega) H1.out.2.2.2 (by simp)).mono ?_
  intro e w2 hp
  obtain ⟨rfl, hst⟩ := hp.step
  have h2 := Wf2.step H1.out.1 H.out H1.out.2.1 H1.out.2.2.1 (by simp) hst
  obtain ⟨A2, c2, o2, ho2, hw2⟩ := h2
  have H2 := Lib.hid hw2
  clear hw2 hst hp
  refine hK.out (fun z => Fm z g n k A c bs) _ _ (fun _ h => h) H2.out.2.1 (fun hS => ?_)
  refine seq_do rfl (by kernel_rfl) (by rfl) (fun K hK => ?_)
  go_simp
  refine (uint_any k gw A2 c2 o2 w2 (by have := HB.out.1.2; omega) H2.out.1 (by rw [ho2.out]; have := length_uintB_le n; simp at this ⊢; omega)).mono ?_
  intro e w3 hp
  obtain ⟨rfl, hst⟩ := hp.step
  have h3 := Wf2.step H2.out.2.1 H.out H2.out.2.2.1 H2.out.2.2.2.1 H2.out.2.2.2.2 hst
  obtain ⟨A3, c3, o3, ho3, hw3⟩ := h3
  have HO3 := Lib.hid (show o3 = uintB n ++ uintB k by rw [ho3.out, ho2.out]; rfl)
  have H3 := Lib.hid hw3
  clear hw3 hst hp ho3
  refine hK.out (fun z => Fm z g n k A c bs) _ _ (fun _ h => h) H3.out.2.1 (fun hS => ?_)
  refine seq_do rfl (by kernel_rfl) (by rfl) (fun K hK => ?_)
  go_simp
  refine (bytes_any gw A3 c3 o3 A bs c w3 H3.out.1 H3.out.2.1.2.1.rd (fun a ha _ => by
      have h1 := H.out.2.1.lt a ha
      refine ⟨by have := H3.out.2.2.2.1; omega, fun hm => ?_⟩
      obtain ⟨a1, e1, e2⟩ := mem_blk.1 hm
      have := H3.out.2.2.2.2 a1 e1
      omega) (by rw [HO3.out]; have h1 := length_uintB_le n; have h2 := length_uintB_le k; have := HB.out.2; rw [List.length_append]; omega)).mono ?_
  intro e w4 hp
  obtain ⟨rfl, hst⟩ := hp.step
  have h4 := Wf2.step H3.out.2.1 H.out H3.out.2.2.1 H3.out.2.2.2.1 H3.out.2.2.2.2 hst
  obtain ⟨A4, c4, o4, ho4, hw4⟩ := h4
  have HO4 := Lib.hid (show o4 = encK n k bs by rw [ho4.out, HO3.out]; rfl)
  have H4 := Lib.hid hw4
  clear hw4 hst hp ho4
  refine hK.out (fun z => Fm z g n k A c bs) _ _ (fun _ h => h) H4.out.2.1 (fun hS => ?_)
  refine seq_do rfl (by kernel_rfl) (by rfl) (fun K hK => ?_)
  go_simp
  refine (done_any gw A4 c4 o4 w4 H4.out.1 (by
      rw [HO4.out]; unfold encK lenB; have h1 := length_uintB_le n; have h2 := length_uintB_le k; have h3 := length_uintB_le bs.length; have := HB.out.2
      rw [List.length_append, List.length_append, List.length_append]; omega)).mono ?_
  rintro e w5 ⟨A5, c5, o5, ho5, rfl, hown, hnew, hk5⟩
  have H5 := Lib.hid (show NewB 5 (encK n k bs) w (.returned (.slice A5 o5.length c5)) w5 from ⟨A5, c5, o5, by show _ = _; rw [ho5.out, HO4.out], rfl, hown, fun a ha => Nat.le_trans H4.out.2.2.1.size (hnew a ha), H4.out.2.2.1.trans hk5 (by simp)⟩)
  have HF5 := Lib.hid (H4.out.2.1.keeps0 hk5)
  clear ho5 hown hnew hk5
  refine hK.out (fun z => Fm z g n k A c bs) _ _ (fun _ h => h) HF5.out (fun hS => ?_)
  refine seq_take (v := ?_) rfl (by kernel_rfl) (by kernel_rfl) (by kernel_rfl) (Or.inl ⟨by rfl, fun w' hSw => ?_⟩) (by assumption) ?_
  rotate_left
  · go_simp
    with_reducible rfl
  simp only [Act.put, List.setIfInBounds_toArray, List.set_cons_zero, List.set_cons_succ]
  refine seq_done (by kernel_rfl) ?_
  all_goals skip
  go_wp2_with fail
  go_ret
  exact H5.out

set_option maxHeartbeats 4000000 in
theorem bsure_any (w : World) :
    Calls Tryd.prog 9 #[] w fun e w' => e = .returned (.bool true) ∧ Keeps [] w w' := by
  have ea : (⟨#[97]⟩ : ByteArray) = strB [97] := rfl
  have HE := Lib.hid ea
  clear ea
  go_enter Tryd.func9, Tryd.ntmps9
  go_wp2_with fail
  refine (bnew_any 8 1 w (by decide) (by decide)).mono ?_
  rintro e w1 ⟨g, A, rfl, hf, hg, hA, hk1⟩
  have H1 := Lib.hid (show Fm w1 g 8 1 A 1 [0] ∧ Keeps [] w w1 from ⟨hf, hk1⟩)
  have HA := Lib.hid hA
  clear hf hg hA hk1
  go_wp2_with fail
  rw [HE.out]
  refine (may_any g 8 1 A 1 [0] [97] w1 H1.out.1 (by decide) (by decide) (by decide) (by decide)).mono ?_
  rintro e w2 ⟨rfl, hk2⟩
  rw [a_bits, a_not]
  have H2 := Lib.hid (show Fm w2 g 8 1 A 1 [0] ∧ Keeps [] w w2 from ⟨H1.out.1.keeps0 hk2, H1.out.2.trans hk2 (by simp)⟩)
  clear hk2 H1
  go_wp2_with fail
  rw [HE.out]
  refine (add_any g 8 1 A 1 [0] [97] w2 H2.out.1 (by decide) (by decide) (by decide) (by decide)).mono ?_
  rintro e w3 ⟨rfl, hf3, hk3⟩
  rw [a_bits, a_or] at hf3
  have H3 := Lib.hid (show Fm w3 g 8 1 A 1 [4] ∧ Keeps [] w w3 from ⟨hf3, H2.out.2.fresh hk3 HA.out⟩)
  clear hf3 hk3 H2
  go_wp2_with fail
  refine (full_any g 8 1 A 1 [4] w3 H3.out.1 (by decide)).mono ?_
  rintro e w4 ⟨rfl, rfl⟩
  rw [a_full]
  go_wp2_with fail
  rw [HE.out]
  refine (may_any g 8 1 A 1 [4] [97] w3 H3.out.1 (by decide) (by decide) (by decide) (by decide)).mono ?_
  rintro e w5 ⟨rfl, hk5⟩
  rw [a_bits, a_may]
  have H5 := Lib.hid (H3.out.2.trans hk5 (by simp))
  clear hk5
  go_wp2_with fail
  go_ret
  exact ⟨rfl, H5.out⟩
end Go.Proofs.YthppbefemfkccaaDoor
