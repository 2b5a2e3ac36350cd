/- The document's filter as bytes: a contract. The document's filter: a key laid in: a contract. What a filter that is not there answers: contracts. What is taken off as a number was laid as one: plain lists. The bytes of a filter that was read are the bytes read: plain lists. -/
import Derived.Test.YthppbefemfkccaaDoorQBloomRuns11
import Derived.Test.YthppbefemfkccaaDoorQBloomRuns2
import Derived.Deep.DeepCutAuto
import Derived.Deep.AppendLies
import Derived.Test.YthppbefemfkccaaDoorQBloomRuns7
namespace Go.Proofs.YthppbefemfkccaaDoor
open Go.RowKit
attribute [local irreducible] bitsK orAll

theorem add_bit : ∀ b : Fin 256, ∀ r : Fin 8, b.val.testBit r.val = false → b.val + 2 ^ r.val = b.val ||| 2 ^ r.val := by decide +kernel
theorem u8_add_bit (b : UInt8) (r : Nat) (hr : r < 8) (h : b.toNat.testBit r = false) : b.toNat + 2 ^ r = (b ||| UInt8.ofNat (2 ^ r)).toNat := by
  have := add_bit ⟨b.toNat, b.toNat_lt⟩ ⟨r, hr⟩ h
  rw [UInt8.toNat_or, UInt8.toNat_ofNat', Nat.mod_eq_of_lt (Nat.pow_lt_pow_right (by decide) hr)]
  exact this
set_option maxRecDepth 100000 in
set_option maxHeartbeats 4000000 in
theorem renc_any (A0 : Option Addr) (c0 n k : Nat) (x : List UInt8) (w : World) (hr : Rd w A0 n 1 (bitsL n x)) (hn : n ≤ 1048576) (hk : k ≤ 16) (hx : x.length = (n + 7) / 8) (hsp : ∀ t, n ≤ t → t < 8 * x.length → hasBit x t = false) :
    Calls Tryd.prog 18 #[.agg #[.int .i64 (k : Int), .slice A0 n c0]] w (NewB 5 (encK n k x) w) := by
  have HR := Lib.hid hr
  have HX := Lib.hid hx
  have HSP := Lib.hid hsp
  obtain ⟨m, hm⟩ : ∃ m, m = (n + 7) / 8 := ⟨_, rfl⟩
  have HM := Lib.hid hm
  obtain ⟨W, hW⟩ : ∃ W, W = w.alloc (.cells #[.int .i64 (k : Int), .slice A0 n c0] 31) := ⟨_, rfl⟩
  have H0 := Lib.hid (show W.heap[w.heap.size]? = some (.cells #[.int .i64 (k : Int), .slice A0 n c0] 31 (0, 0)) ∧ Keeps [] w W ∧ W.heap.size = w.heap.size + 1 from by rw [hW]; exact ⟨heap_alloc_new _ _, (Keeps.refl [] w).alloc _, by simp⟩)
  have HW := Lib.hid hW
  have q1 : W.cell? ⟨w.heap.size, 1, none⟩ = some (.slice A0 n c0) := by rw [cell_of_row _ _ _ _ _ _ H0.out.1]; rfl
  have hms := make_bytes W m (by omega)
  have f0 : ((n : Int) + 7).tdiv 8 = (m : Int) := by rw [Int.tdiv_eq_ediv_of_nonneg (by omega)]; omega
  have fm : m ≤ 131073 := by omega
  obtain ⟨V, hV⟩ : ∃ V, V = W.alloc (.cells (encB (List.replicate m 0)).toArray 5) := ⟨_, rfl⟩
  rw [← hV] at hms
  have hgs : W.heap.size = w.heap.size + 1 := H0.out.2.2
  rw [hgs] at hms
  have H1 := Lib.hid (show V.heap[w.heap.size + 1]? = some (.cells (encB (List.replicate m 0)).toArray 5 (0, 0)) ∧ V.heap[w.heap.size]? = some (.cells #[.int .i64 (k : Int), .slice A0 n c0] 31 (0, 0)) ∧ Keeps [] w V from by
    rw [hV, ← hgs]; exact ⟨heap_alloc_new _ _, (Below.heap_alloc _ _ _ (lt_of_block H0.out.1)).trans H0.out.1, H0.out.2.1.alloc _⟩)
  have HV := Lib.hid hV
  clear hr hx hsp hm hW hV hgs
  go_enter Tryd.func18, Tryd.ntmps18
  go_upto_region 1 with fail
  rw [← HW.out]
  go_wp2_with fail
  have INV := Lib.hid (show BB V (w.heap.size + 1) 5 (List.replicate m 0) ∧ V.heap[w.heap.size]? = some (.cells #[.int .i64 (k : Int), .slice A0 n c0] 31 (0, 0)) ∧ Keeps [] w V from H1.out)
  have INB := Lib.hid (show (List.replicate m (0 : UInt8)).length = m ∧ ∀ t, hasBit (List.replicate m 0) t = (decide (t < 0) && hasBit x t) from ⟨by simp, fun t => by
    have : hasBit (List.replicate m 0) t = false := by
      unfold hasBit
      rw [List.getD_eq_getElem?_getD, List.getElem?_replicate]
      split <;> simp
    rw [this]; simp⟩)
  go_loopw [4] (fun si wr => ∃ (i : Nat) (b : List UInt8), i ≤ n ∧ si = .int .i64 i ∧ Hid (b.length = m ∧ ∀ t, hasBit b t = (decide (t < i) && hasBit x t)) ∧ Hid (BB wr (w.heap.size + 1) 5 b ∧ wr.heap[w.heap.size]? = some (.cells #[.int .i64 (k : Int), .slice A0 n c0] 31 (0, 0)) ∧ Keeps [] w wr)) (fun si _ => n - (intOf si).toNat)
  case atStart => exact ⟨0, _, Nat.zero_le _, rfl, INB.out, INV.out⟩
  case round =>
    clear INV INB H1 H0
    obtain ⟨i, b, hi, rfl, hb, hinv⟩ := hrel
    have q0 : wr.cell? ⟨w.heap.size, 0, none⟩ = some (.int .i64 (k : Int)) := by rw [cell_of_row _ _ _ _ _ _ hinv.out.2.1]; rfl
    have q1 : wr.cell? ⟨w.heap.size, 1, none⟩ = some (.slice A0 n c0) := by rw [cell_of_row _ _ _ _ _ _ hinv.out.2.1]; rfl
    by_cases hlt : i < n
    · have hik : (i : Int) < (n : Int) := by omega
      obtain ⟨a0, rfl, k0⟩ := bitsL_cell (HR.out.keeps0 hinv.out.2.2) hlt
      obtain ⟨t, ht⟩ : ∃ t, t = hasBit x i := ⟨_, rfl⟩
      rw [← ht] at k0
      have HT := Lib.hid ht
      clear ht
      cases t with
      | false =>
        have HBN := Lib.hid (show b.length = m ∧ ∀ t, hasBit b t = (decide (t < i + 1) && hasBit x t) from ⟨hb.out.1, fun t => by
          rw [hb.out.2]
          by_cases e : t = i
          · subst e; rw [← HT.out]; simp
          · rw [show decide (t < i + 1) = decide (t < i) from by rw [decide_eq_decide]; omega]⟩)
        clear hlt
        go_wp2_with fail
        go_roundw
        case rel => exact ⟨i + 1, b, by omega, by go_num, HBN.out, hinv.out⟩
        case measure => simp [intOf]; omega
      | true =>
        obtain ⟨q, hq⟩ : ∃ q, q = i / 8 := ⟨_, rfl⟩
        obtain ⟨r, hr⟩ : ∃ r, r = i % 8 := ⟨_, rfl⟩
        have hqm : q < m := by have := HM.out; omega
        have hqb : q < b.length := by rw [hb.out.1]; exact hqm
        obtain ⟨v, hv⟩ : ∃ v, v = b[q] := ⟨_, rfl⟩
        have qx := hinv.out.1.cell q hqb
        rw [← hv] at qx
        have p8 := pow8 r (by omega)
        obtain ⟨p, hp⟩ : ∃ p, p = UInt8.ofNat (2 ^ r) := ⟨_, rfl⟩
        rw [← hp] at p8
        obtain ⟨y, hy⟩ : ∃ y, y = v ||| p := ⟨_, rfl⟩
        have hadd : v.toNat + p.toNat = y.toNat := by
          have h1 : hasBit b i = false := by rw [hb.out.2]; simp
          unfold hasBit at h1
          rw [← hq, ← hr, List.getD_eq_getElem?_getD, List.getElem?_eq_getElem hqb, Option.getD_some, ← hv] at h1
          have h2 := u8_add_bit v r (by omega) h1
          rw [← hp, ← hy] at h2
          rw [← h2]
          have h3 : (2 : Int) ^ r = ((2 ^ r : Nat) : Int) := by simp
          omega
        have HST := Lib.hid (show b.set q y = orBit b i by unfold orBit; rw [← hq, ← hr, List.getD_eq_getElem?_getD, List.getElem?_eq_getElem hqb, Option.getD_some, ← hv, ← hp, hy])
        have hbi : i / 8 < b.length := by omega
        have HBN := Lib.hid (show (b.set q y).length = m ∧ ∀ t, hasBit (b.set q y) t = (decide (t < i + 1) && hasBit x t) from ⟨by simpa using hb.out.1, fun t => by
          rw [HST.out, hasBit_or _ _ _ hbi, hb.out.2]
          by_cases e : i = t
          · subst e; rw [← HT.out]; simp
          · rw [show decide (t < i + 1) = decide (t < i) from by rw [decide_eq_decide]; omega]; simp [e]⟩)
        have f1 : (i : Int).tdiv 8 = (q : Int) := by rw [Int.tdiv_eq_ediv_of_nonneg (by omega)]; omega
        have f2 : (i : Int).tmod 8 = (r : Int) := by rw [Int.tmod_eq_emod_of_nonneg (by omega)]; omega
        have f3 : IntKind.i64.wrap (q : Int) = (q : Int) := by rw [IntKind.wrap_i64]; omega
        have f4 : IntKind.u8.wrap ((2 : Int) ^ r) = (p.toNat : Int) := by rw [IntKind.wrap_u8, ← p8.1]; omega
        have f4' : (2 : Int) ^ r % 256 = (p.toNat : Int) := by rw [← p8.1]; omega
        have hr8 : (r : Int) < 8 := by omega
        have f6 : IntKind.u8.wrap ((v.toNat : Int) + (p.toNat : Int)) = (y.toNat : Int) := by rw [IntKind.wrap_u8]; have := y.toNat_lt; omega
        have hqM : (q : Int) < (m : Int) := by omega
        have fz : wr.frozen? ⟨w.heap.size + 1, q, none⟩ = false := frozen_of_row wr _ q _ _ hinv.out.1
        have HVV := Lib.hid (show BB (wr.setCell ⟨w.heap.size + 1, q, none⟩ (.int .u8 (y.toNat : Int))) (w.heap.size + 1) 5 (b.set q y) ∧ (wr.setCell ⟨w.heap.size + 1, q, none⟩ (.int .u8 (y.toNat : Int))).heap[w.heap.size]? = some (.cells #[.int .i64 (k : Int), .slice (some a0) n c0] 31 (0, 0)) ∧ Keeps [] w (wr.setCell ⟨w.heap.size + 1, q, none⟩ (.int .u8 (y.toNat : Int))) from
          ⟨hinv.out.1.set q y, (((Keeps.refl [w.heap.size + 1] wr).setCell (p := ⟨w.heap.size + 1, q, none⟩) (.inl (by simp)) _).block _ (lt_of_block hinv.out.2.1) (by simp)).trans hinv.out.2.1, hinv.out.2.2.setCell (p := ⟨w.heap.size + 1, q, none⟩) (.inr (by show w.heap.size ≤ w.heap.size + 1; omega)) _⟩)
        clear hlt hq hr hqm hqb hv hp p8 hy hadd hbi hb
        go_wp2_with fail
        go_roundw
        case rel => exact ⟨i + 1, b.set q y, by omega, by go_num, HBN.out, HVV.out⟩
        case measure => simp [intOf]; omega
    · have hik : ¬ (i : Int) < (n : Int) := by omega
      have HBX := Lib.hid (show b = x from by
        refine bits_ext (by rw [hb.out.1, HX.out, HM.out]) fun t => ?_
        rw [hb.out.2]
        by_cases e : t < i
        · simp [e]
        · have e2 : hasBit x t = false := by
            by_cases h8 : t < 8 * x.length
            · exact HSP.out t (by omega) h8
            · unfold hasBit
              rw [List.getD_eq_getElem?_getD, List.getElem?_eq_none (by omega)]
              simp
          rw [e2]; simp)
      clear hlt
      go_upto_region 7 with fail
      have HKK := Lib.hid (And.intro q0 q1)
      have f8 : IntKind.u64.wrap (n : Int) = (n : Int) := by rw [IntKind.wrap_u64]; omega
      have f9 : IntKind.u64.wrap (k : Int) = (k : Int) := by rw [IntKind.wrap_u64]; omega
      have qa : ∀ z : World, (z.cell? ⟨w.heap.size, 0, none⟩ = some (.int .i64 (k : Int)) ∧ z.cell? ⟨w.heap.size, 1, none⟩ = some (.slice A0 n c0)) → z.cell? ⟨w.heap.size, 0, none⟩ = some (.int .i64 (k : Int)) := fun z hz => hz.1
      have qb : ∀ z : World, (z.cell? ⟨w.heap.size, 0, none⟩ = some (.int .i64 (k : Int)) ∧ z.cell? ⟨w.heap.size, 1, none⟩ = some (.slice A0 n c0)) → z.cell? ⟨w.heap.size, 1, none⟩ = some (.slice A0 n c0) := fun z hz => hz.2
      clear q0 q1
      refine seq_start (by kernel_rfl) (fun z => z.cell? ⟨w.heap.size, 0, none⟩ = some (.int .i64 (k : Int)) ∧ z.cell? ⟨w.heap.size, 1, none⟩ = some (.slice A0 n c0)) 12 [0, 1, 2, 3, 4, 5, 6, 7, 8, 9, 10, 11] rfl (HKK.out) (fun hS => ?_)
      have HI := Lib.hid (show BB wr.drew (w.heap.size + 1) 5 b ∧ wr.drew.heap[w.heap.size]? = some (.cells #[.int .i64 (k : Int), .slice A0 n c0] 31 (0, 0)) ∧ Keeps [] w wr.drew from ⟨hinv.out.1, hinv.out.2.1, hinv.out.2.2.drew⟩)
      clear hinv HKK
      refine seq_take (v := ?_) rfl (by kernel_rfl) (by kernel_rfl) (by kernel_rfl) (Or.inl ⟨by rfl, fun w' hSw => ?_⟩) (by assumption) ?_
      rotate_left
      · go_simp
        with_reducible rfl
      simp only [Act.put, List.setIfInBounds_toArray, List.set_cons_zero, List.set_cons_succ]
      refine seq_take (v := ?_) rfl (by kernel_rfl) (by kernel_rfl) (by kernel_rfl) (Or.inl ⟨by rfl, fun w' hSw => ?_⟩) (by assumption) ?_
      rotate_left
      · go_simp
        with_reducible rfl
      simp only [Act.put, List.setIfInBounds_toArray, List.set_cons_zero, List.set_cons_succ]
      refine seq_take (v := ?_) rfl (by kernel_rfl) (by kernel_rfl) (by kernel_rfl) (Or.inl ⟨by rfl, fun w' hSw => ?_⟩) (by assumption) ?_
      rotate_left
      · go_simp
        with_reducible rfl
      simp only [Act.put, List.setIfInBounds_toArray, List.set_cons_zero, List.set_cons_succ]
      refine seq_take (v := ?_) rfl (by kernel_rfl) (by kernel_rfl) (by kernel_rfl) (Or.inl ⟨by rfl, fun w' hSw => ?_⟩) (by assumption) ?_
      rotate_left
      · go_simp
        with_reducible rfl
      simp only [Act.put, List.setIfInBounds_toArray, List.set_cons_zero, List.set_cons_succ]
      iterate 1 (refine seq_later ?_; simp only [List.cons_append, List.nil_append])
      refine seq_take (v := ?_) rfl (by kernel_rfl) (by kernel_rfl) (by kernel_rfl) (Or.inl ⟨by rfl, fun w' hSw => ?_⟩) (by assumption) ?_
      rotate_left
      · go_simp
        with_reducible rfl
      simp only [Act.put, List.setIfInBounds_toArray, List.set_cons_zero, List.set_cons_succ]
      refine seq_take (v := ?_) rfl (by kernel_rfl) (by kernel_rfl) (by kernel_rfl) (Or.inl ⟨by rfl, fun w' hSw => ?_⟩) (by assumption) ?_
      rotate_left
      · go_simp
        with_reducible rfl
      simp only [Act.put, List.setIfInBounds_toArray, List.set_cons_zero, List.set_cons_succ]
      refine seq_take (v := ?_) rfl (by kernel_rfl) (by kernel_rfl) (by kernel_rfl) (Or.inl ⟨by rfl, fun w' hSw => ?_⟩) (by assumption) ?_
      rotate_left
      · go_simp
        with_reducible rfl
      simp only [Act.put, List.setIfInBounds_toArray, List.set_cons_zero, List.set_cons_succ]
      iterate 1 (refine seq_later ?_; simp only [List.cons_append, List.nil_append])
      refine seq_take (v := ?_) rfl (by kernel_rfl) (by kernel_rfl) (by kernel_rfl) (Or.inl ⟨by rfl, fun w' hSw => ?_⟩) (by assumption) ?_
      rotate_left
      · go_simp
        with_reducible rfl
      simp only [Act.put, List.setIfInBounds_toArray, List.set_cons_zero, List.set_cons_succ]
      iterate 2 (refine seq_later ?_; simp only [List.cons_append, List.nil_append])
      refine seq_do rfl (by kernel_rfl) (by rfl) (fun K hK => ?_)
      go_simp
      refine (refuintw_any none [] 0 n _ (by simp) (Rd.nil _ _ _) (by omega)).mono ?_
      rintro e w2 ⟨A2, c2, l2, hl2, rfl, ho2, hn2, hk2⟩
      have H2 := Lib.hid (show BB w2 (w.heap.size + 1) 5 b ∧ w2.heap[w.heap.size]? = some (.cells #[.int .i64 (k : Int), .slice A0 n c0] 31 (0, 0)) ∧ Keeps [] w w2 ∧ RdB w2 A2 l2 ∧ l2 = [] ++ uintB n ∧ l2.length ≤ 20 from
        ⟨HI.out.1.keeps hk2 (by simp), (hk2.block _ (lt_of_block HI.out.2.1) (by simp)).trans HI.out.2.1, HI.out.2.2.trans hk2 (by simp), ho2.rd, hl2.out, by rw [hl2.out]; have := length_uintB_le n; simp at this ⊢; omega⟩)
      clear HI hl2 ho2 hn2 hk2
      refine hK.out (fun z => z.cell? ⟨w.heap.size, 0, none⟩ = some (.int .i64 (k : Int)) ∧ z.cell? ⟨w.heap.size, 1, none⟩ = some (.slice A0 n c0)) _ _ (fun _ h => h) ⟨by rw [cell_of_row _ _ _ _ _ _ H2.out.2.1]; rfl, by rw [cell_of_row _ _ _ _ _ _ H2.out.2.1]; rfl⟩ (fun hS => ?_)
      refine seq_do rfl (by kernel_rfl) (by rfl) (fun K hK => ?_)
      go_simp
      refine (refuintw_any A2 l2 c2 k _ (by have := H2.out.2.2.2.2.2; omega) H2.out.2.2.2.1 (by omega)).mono ?_
      rintro e w3 ⟨A3, c3, l3, hl3, rfl, ho3, hn3, hk3⟩
      have H3 := Lib.hid (show BB w3 (w.heap.size + 1) 5 b ∧ w3.heap[w.heap.size]? = some (.cells #[.int .i64 (k : Int), .slice A0 n c0] 31 (0, 0)) ∧ Keeps [] w w3 ∧ RdB w3 A3 l3 ∧ l3 = uintB n ++ uintB k ∧ l3.length ≤ 40 from
        ⟨H2.out.1.keeps hk3 (by simp), (hk3.block _ (lt_of_block H2.out.2.1) (by simp)).trans H2.out.2.1, H2.out.2.2.1.trans hk3 (by simp), ho3.rd, by rw [hl3.out, H2.out.2.2.2.2.1]; simp, by rw [hl3.out]; have h5 := length_uintB_le k; have h6 := H2.out.2.2.2.2.2; simp at h5 ⊢; omega⟩)
      clear H2 hl3 ho3 hn3 hk3
      refine hK.out (fun z => z.cell? ⟨w.heap.size, 0, none⟩ = some (.int .i64 (k : Int)) ∧ z.cell? ⟨w.heap.size, 1, none⟩ = some (.slice A0 n c0)) _ _ (fun _ h => h) ⟨by rw [cell_of_row _ _ _ _ _ _ H3.out.2.1]; rfl, by rw [cell_of_row _ _ _ _ _ _ H3.out.2.1]; rfl⟩ (fun hS => ?_)
      refine seq_do rfl (by kernel_rfl) (by rfl) (fun K hK => ?_)
      go_simp
      have hbm : b.length = m := hb.out.1
      have HW4 := refbytesw_any A3 l3 c3 (some ⟨w.heap.size + 1, 0, none⟩) b m w3 (by have := H3.out.2.2.2.2.2; omega) H3.out.2.2.2.1 (own_of_block H3.out.1 (by simp [maxLen]; omega)).rd
      rw [hbm] at HW4
      refine HW4.mono ?_
      rintro e w4 ⟨A4, c4, l4, hl4, rfl, ho4, hn4, hk4⟩
      have H4 := Lib.hid (show w4.heap[w.heap.size]? = some (.cells #[.int .i64 (k : Int), .slice A0 n c0] 31 (0, 0)) ∧ Keeps [] w w4 ∧ OwnB 5 w4 A4 c4 l4 ∧ l4 = encK n k x ∧ (∀ a, A4 = some a → w.heap.size ≤ a.block) from
        ⟨(hk4.block _ (lt_of_block H3.out.2.1) (by simp)).trans H3.out.2.1, H3.out.2.2.1.trans hk4 (by simp), ho4, by rw [hl4.out, H3.out.2.2.2.2.1, ← hbm, HBX.out]; unfold encK lenB; simp, fun a ha => Nat.le_trans H3.out.2.2.1.size (hn4 a ha)⟩)
      clear H3 hl4 ho4 hn4 hk4 HW4 hbm
      refine hK.out (fun z => z.cell? ⟨w.heap.size, 0, none⟩ = some (.int .i64 (k : Int)) ∧ z.cell? ⟨w.heap.size, 1, none⟩ = some (.slice A0 n c0)) _ _ (fun _ h => h) ⟨by rw [cell_of_row _ _ _ _ _ _ H4.out.1]; rfl, by rw [cell_of_row _ _ _ _ _ _ H4.out.1]; rfl⟩ (fun hS => ?_)
      refine seq_take (v := ?_) rfl (by kernel_rfl) (by kernel_rfl) (by kernel_rfl) (Or.inl ⟨by rfl, fun w' hSw => ?_⟩) (by assumption) ?_
      rotate_left
      · go_simp
        with_reducible rfl
      simp only [Act.put, List.setIfInBounds_toArray, List.set_cons_zero, List.set_cons_succ]
      refine seq_done (by kernel_rfl) ?_
      all_goals skip
      go_wp2_with fail
      go_ret
      exact ⟨A4, c4, l4, H4.out.2.2.2.1, rfl, H4.out.2.2.1, H4.out.2.2.2.2, H4.out.2.1⟩
end Go.Proofs.YthppbefemfkccaaDoor
namespace Go.Proofs.YthppbefemfkccaaDoor
open Go.RowKit
attribute [local irreducible] bitsK orAll

theorem bitsL_set (n : Nat) (x : List UInt8) (j : Nat) (hj : j / 8 < x.length) : (bitsL n x).set j (.bool true) = bitsL n (orBit x j) := by
  refine List.ext_getElem? fun t => ?_
  by_cases ht : t < n
  · rw [bitsL_get n _ t ht, hasBit_or _ _ _ hj]
    by_cases e : j = t
    · subst e
      rw [List.getElem?_set_self (by rw [bitsL_len]; exact ht)]
      simp
    · rw [List.getElem?_set_ne e, bitsL_get n _ t ht]
      simp [e]
  · rw [List.getElem?_eq_none (by rw [List.length_set, bitsL_len]; omega), List.getElem?_eq_none (by rw [bitsL_len]; omega)]
theorem bitsL_one (n : Nat) (x : List UInt8) : ∀ u ∈ bitsL n x, u.oneCell' = true := by
  intro u hu
  unfold bitsL at hu
  obtain ⟨t, _, rfl⟩ := List.mem_map.1 hu
  rfl
def RAddP (n k : Nat) (x : List UInt8) (w : World) (e : Ending) (w' : World) : Prop :=
  ∃ A c, e = .returned (.agg #[.int .i64 (k : Int), .slice A n c]) ∧ Rd w' A n 1 (bitsL n x) ∧ Keeps [] w w' ∧ (∀ a, A = some a → w.heap.size ≤ a.block)
set_option maxRecDepth 100000 in
set_option maxHeartbeats 4000000 in
theorem radd_any (A0 : Option Addr) (c0 n k : Nat) (x : List UInt8) (s : List UInt8) (w : World) (hr : Rd w A0 n 1 (bitsL n x)) (hn : 1 ≤ n ∧ n ≤ 1048576) (hk : 1 ≤ k ∧ k ≤ 16) (hs : s.length ≤ 140737488351232) (hx : n ≤ 8 * x.length) :
    Calls Tryd.prog 21 #[.agg #[.int .i64 (k : Int), .slice A0 n c0], .string (strB s)] w (RAddP n k (orAll x (bitsK n k s)) w) := by
  have HR := Lib.hid hr
  have HX := Lib.hid hx
  have HN := Lib.hid (show ∀ j ∈ bitsK n k s, j < n from fun j hj => bitsK_lt (by omega) hj)
  have HLK := Lib.hid (bitsK_len n k s)
  have HBITS := Lib.hid (fun W => rbits_gen A0 c0 n k s W hn hk hs)
  obtain ⟨L, hL⟩ : ∃ L, L = bitsK n k s := ⟨_, rfl⟩
  unfold RBitsF at HBITS
  rw [← hL] at HN HLK HBITS ⊢
  obtain ⟨W, hW⟩ : ∃ W, W = (w.alloc (.cells #[.int .i64 (k : Int), .slice A0 n c0] 31)).alloc (.cells #[.int .i64 0, .slice none 0 0] 31) := ⟨_, rfl⟩
  have H0 := Lib.hid (show W.heap[w.heap.size]? = some (.cells #[.int .i64 (k : Int), .slice A0 n c0] 31 (0, 0)) ∧ W.heap[w.heap.size + 1]? = some (.cells #[.int .i64 0, .slice none 0 0] 31 (0, 0)) ∧ Keeps [] w W from by rw [hW]; exact ⟨heap_alloc2_old _ _ _, heap_alloc2_new _ _ _, ((Keeps.refl [] w).alloc _).alloc _⟩)
  have HW := Lib.hid hW
  have q1 : W.cell? ⟨w.heap.size, 1, none⟩ = some (.slice A0 n c0) := by rw [cell_of_row _ _ _ _ _ _ H0.out.1]; rfl
  obtain ⟨hn1, hn2⟩ := hn
  obtain ⟨hk1, hk2⟩ := hk
  have HRW := Lib.hid (HR.out.keeps0 H0.out.2.2)
  have HB := Lib.hid (show 0 + n ≤ maxLen ∧ (0 + n) * 1 ≤ 140737488355328 from by simp [maxLen]; omega)
  clear hr hs hL hx hW
  go_enter Tryd.func21, Tryd.ntmps21
  go_upto_region 2 with fail
  rw [← HW.out]
  go_wp2_with (at_builtin; refine wpList_appendV rfl (.tmp 8) (.tmp 10) 29 4 rfl Tryd.underlying29 (.bool false) 1 1 infoBo rfl (by decide) none 0 0 [] rfl (World.ownsRow_nil _ 0 _ _) A0 n c0 (bitsL n x) rfl HRW.out (bitsL_one n x) HB.out.1 HB.out.2 ?_
               intro A1 c1 w1 ho1 hk1' hb1
               rw [Nat.zero_add, List.nil_append] at ho1
               have H1 := Lib.hid (show w1.ownsRow 0 4 1 (.slice A1 n c1) n (bitsL n x) ∧ w1.heap[w.heap.size]? = some (.cells #[.int .i64 (k : Int), .slice A0 n c0] 31 (0, 0)) ∧ w1.heap[w.heap.size + 1]? = some (.cells #[.int .i64 0, .slice none 0 0] 31 (0, 0)) ∧ Keeps [] w w1 ∧ (∀ a, A1 = some a → w.heap.size + 2 ≤ a.block) from by
                 have hk0 : Keeps [] W w1 := hk1'.mono (by simp [blk])
                 refine ⟨ho1, (hk0.block _ (lt_of_block H0.out.1) (by simp)).trans H0.out.1, (hk0.block _ (lt_of_block H0.out.2.1) (by simp)).trans H0.out.2.1, H0.out.2.2.trans hk0 (by simp), fun a ha => ?_⟩
                 rcases hb1 a ha with h | h
                 · simp [blk] at h
                 · rw [HW.out] at h; simpa using h)
               have p0 : w1.cell? ⟨w.heap.size, 0, none⟩ = some (.int .i64 (k : Int)) := by rw [cell_of_row _ _ _ _ _ _ H1.out.2.1]; rfl
               have p1 : w1.cell? ⟨w.heap.size, 1, none⟩ = some (.slice A0 n c0) := by rw [cell_of_row _ _ _ _ _ _ H1.out.2.1]; rfl
               clear ho1 hk1' hb1)
  refine (HBITS.out _).mono ?_
  rintro e w2 ⟨A2, c2, rfl, hib, hk2', hb2⟩
  obtain ⟨g1, c1', he1, _, _⟩ := World.ownsRow.form H1.out.1 (by omega)
  simp only [Value.slice.injEq, true_and] at he1
  obtain ⟨rfl, rfl⟩ := he1
  have INV := Lib.hid (show w2.ownsRow 0 4 1 (.slice (some ⟨g1, 0, none⟩) n c1) n (bitsL n (orAll x (L.take 0))) ∧ w2.heap[w.heap.size]? = some (.cells #[.int .i64 (k : Int), .slice A0 n c0] 31 (0, 0)) ∧ w2.heap[w.heap.size + 1]? = some (.cells #[.int .i64 0, .slice none 0 0] 31 (0, 0)) ∧ Keeps [] w w2 ∧ Rd w2 A2 k 1 (encI L) from by
    refine ⟨ownsRow_keeps (by unfold orAll; exact H1.out.1) hk2' (by simp), (hk2'.block _ (lt_of_block H1.out.2.1) (by simp)).trans H1.out.2.1, (hk2'.block _ (lt_of_block H1.out.2.2.1) (by simp)).trans H1.out.2.2.1, H1.out.2.2.2.1.trans hk2' (by simp), hib⟩)
  have HG := Lib.hid (show w.heap.size + 2 ≤ g1 ∧ (∀ a, A2 = some a → a.block ≠ g1) from ⟨H1.out.2.2.2.2 _ rfl, fun a ha => by have := hb2 a ha; have := World.ownsRow.lt H1.out.1 g1 rfl; omega⟩)
  clear hib hk2' hb2 H1
  clear p0 p1
  go_wp2_with fail
  go_loopw [7] (fun si wr => ∃ i : Nat, i ≤ k ∧ si = .int .i64 i ∧ Hid (wr.ownsRow 0 4 1 (.slice (some ⟨g1, 0, none⟩) n c1) n (bitsL n (orAll x (L.take i))) ∧ wr.heap[w.heap.size]? = some (.cells #[.int .i64 (k : Int), .slice A0 n c0] 31 (0, 0)) ∧ wr.heap[w.heap.size + 1]? = some (.cells #[.int .i64 0, .slice none 0 0] 31 (0, 0)) ∧ Keeps [] w wr ∧ Rd wr A2 k 1 (encI L))) (fun si _ => k - (intOf si).toNat)
  case atStart => exact ⟨0, Nat.zero_le _, rfl, INV.out⟩
  case round =>
    clear INV
    obtain ⟨i, hi, rfl, hinv⟩ := hrel
    by_cases hlt : i < k
    · have hik : (i : Int) < (k : Int) := by omega
      have HIL := Lib.hid (show i < L.length by rw [HLK.out]; exact hlt)
      obtain ⟨j, hj⟩ : ∃ j, j = L[i]'(HIL.out) := ⟨_, rfl⟩
      have hjn : j < n := by rw [hj]; exact HN.out _ (List.getElem_mem _)
      have HST := Lib.hid (show (bitsL n (orAll x (L.take i))).set j (.bool true) = bitsL n (orAll x (L.take (i + 1))) by
        rw [bitsL_set _ _ _ (by rw [orAll_len]; have := HX.out; omega), orAll_snoc x L i HIL.out, ← hj])
      obtain ⟨a1, ha1, k1⟩ := hinv.out.2.2.2.2.at_ (k := i) (by simpa using HIL.out)
      have HG2 := Lib.hid (HG.out.2 a1 ha1)
      subst ha1
      rw [encI_get L i HIL.out, ← hj] at k1
      have hjI : (j : Int) < (n : Int) := by omega
      have hv := (World.ownsRow.stored hinv.out.1 j (.bool true)).1
      rw [HST.out] at hv
      have hkv : Keeps [g1] wr (wr.setCell ⟨g1, j, none⟩ (.bool true)) := (Keeps.refl _ wr).setCell (p := ⟨g1, j, none⟩) (.inl (by simp)) _
      have fz : wr.frozen? ⟨g1, j, none⟩ = false := World.ownsRow.frozenAt hinv.out.1 j
      have fc := World.ownsRow.cellAt hinv.out.1 j (by omega)
      rw [bitsL_get _ _ _ hjn] at fc
      have HV := Lib.hid (show (wr.setCell ⟨g1, j, none⟩ (.bool true)).ownsRow 0 4 1 (.slice (some ⟨g1, 0, none⟩) n c1) n (bitsL n (orAll x (L.take (i + 1)))) ∧ (wr.setCell ⟨g1, j, none⟩ (.bool true)).heap[w.heap.size]? = some (.cells #[.int .i64 (k : Int), .slice A0 n c0] 31 (0, 0)) ∧ (wr.setCell ⟨g1, j, none⟩ (.bool true)).heap[w.heap.size + 1]? = some (.cells #[.int .i64 0, .slice none 0 0] 31 (0, 0)) ∧ Keeps [] w (wr.setCell ⟨g1, j, none⟩ (.bool true)) ∧ Rd (wr.setCell ⟨g1, j, none⟩ (.bool true)) (some a1) k 1 (encI L) from by
        have hg := HG.out.1
        exact ⟨hv, (hkv.block _ (lt_of_block hinv.out.2.1) (by simp; omega)).trans hinv.out.2.1, (hkv.block _ (lt_of_block hinv.out.2.2.1) (by simp; omega)).trans hinv.out.2.2.1, hinv.out.2.2.2.1.setCell (p := ⟨g1, j, none⟩) (.inr (by show _ ≤ g1; omega)) _, hinv.out.2.2.2.2.keeps hkv (fun a ha _ => by cases ha; simpa using HG2.out)⟩)
      clear hj hjn hv hkv hinv
      go_wp2_with fail
      go_roundw
      case rel => exact ⟨i + 1, by omega, by go_num, HV.out⟩
      case measure => simp [intOf]; omega
    · have hik : ¬ (i : Int) < (k : Int) := by omega
      have HKI := Lib.hid (show i = L.length by rw [HLK.out]; omega)
      have p0 : wr.cell? ⟨w.heap.size, 0, none⟩ = some (.int .i64 (k : Int)) := by rw [cell_of_row _ _ _ _ _ _ hinv.out.2.1]; rfl
      clear hlt
      have r0 : wr.cell? ⟨w.heap.size + 1, 0, none⟩ = some (.int .i64 0) := by rw [cell_of_row _ _ _ _ _ _ hinv.out.2.2.1]; rfl
      have r1 : wr.cell? ⟨w.heap.size + 1, 1, none⟩ = some (.slice none 0 0) := by rw [cell_of_row _ _ _ _ _ _ hinv.out.2.2.1]; rfl
      have fz : ∀ i, wr.frozen? ⟨w.heap.size + 1, i, none⟩ = false := fun i => frozen_of_row wr _ i _ _ hinv.out.2.2.1
      go_wp2_with fail
      have h4' : ((wr.setCell ⟨w.heap.size + 1, 0, none⟩ (.int .i64 (k : Int))).setCell ⟨w.heap.size + 1, 1, none⟩ (.slice (some ⟨g1, 0, none⟩) n c1)).heap[w.heap.size + 1]? = some (.cells #[.int .i64 (k : Int), .slice (some ⟨g1, 0, none⟩) n c1] 31 (0, 0)) := by
        rw [heap_setCell_same _ (w.heap.size + 1) 1 _ _ _ (heap_setCell_same wr (w.heap.size + 1) 0 _ _ _ hinv.out.2.2.1)]
        rfl
      have hk4 : Keeps [w.heap.size + 1] wr ((wr.setCell ⟨w.heap.size + 1, 0, none⟩ (.int .i64 (k : Int))).setCell ⟨w.heap.size + 1, 1, none⟩ (.slice (some ⟨g1, 0, none⟩) n c1)) := ((Keeps.refl _ wr).setCell (p := ⟨w.heap.size + 1, 0, none⟩) (.inl (by simp)) _).setCell (p := ⟨w.heap.size + 1, 1, none⟩) (.inl (by simp)) _
      refine bodyPost_ret (v := .agg #[.int .i64 (k : Int), .slice (some ⟨g1, 0, none⟩) n c1]) (results_cell_row Tryd.results21 _ _ (w.heap.size + 1) 31 _ (0, 0) _ rfl h4' Tryd.underlying31 rfl info_rf) rfl ?_
      have ho := hinv.out.1
      rw [HKI.out, List.take_length] at ho
      refine ⟨some ⟨g1, 0, none⟩, c1, rfl, (Rd.of_own ho).keeps hk4 (fun a ha _ => by cases ha; have := HG.out.1; simp; omega), hinv.out.2.2.2.1.trans hk4 (fun t ht => .inr (by simp at ht; omega)), fun a ha => by cases ha; have := HG.out.1; simp; omega⟩
end Go.Proofs.YthppbefemfkccaaDoor
namespace Go.Proofs.YthppbefemfkccaaDoor
open Go.RowKit

theorem nbits_any (s : ByteArray) (w : World) : Calls Tryd.prog 11 #[.pointer none, .string s] w fun e w' => e = .returned (.slice none 0 0) ∧ w = w' := by
  go_enter Tryd.func11, Tryd.ntmps11
  go_wp2_with fail
  go_ret
  exact ⟨rfl, rfl⟩
theorem nadd_any (s : ByteArray) (w : World) : Calls Tryd.prog 19 #[.pointer none, .string s] w fun e w' => e = .returned (.tuple #[]) ∧ w = w' := by
  go_enter Tryd.func19, Tryd.ntmps19
  go_wp2_with fail
  refine (nbits_any s w).mono ?_
  rintro e w1 ⟨rfl, rfl⟩
  go_wp2_with fail
  go_loop [10] (fun si => si = .int .i64 0) (fun _ => 0)
  case atStart => exact rfl
  case round =>
    subst hrel
    go_wp2_with fail
    go_end0
    exact ⟨rfl, rfl⟩
theorem nmay_any (s : ByteArray) (w : World) : Calls Tryd.prog 13 #[.pointer none, .string s] w fun e w' => e = .returned (.bool true) ∧ w = w' := by
  go_enter Tryd.func13, Tryd.ntmps13
  go_wp2_with fail
  refine (nbits_any s w).mono ?_
  rintro e w1 ⟨rfl, rfl⟩
  go_wp2_with fail
  go_loop [11] (fun si => si = .int .i64 0) (fun _ => 0)
  case atStart => exact rfl
  case round =>
    subst hrel
    go_wp2_with fail
    go_ret
    exact ⟨rfl, rfl⟩
theorem nfull_any (w : World) : Calls Tryd.prog 14 #[.pointer none] w fun e w' => e = .returned (.int .i64 0) ∧ w = w' := by
  go_enter Tryd.func14, Tryd.ntmps14
  go_wp2_with fail
  go_ret
  exact ⟨rfl, rfl⟩
theorem nenc_any (w : World) : Calls Tryd.prog 17 #[.pointer none] w fun e w' => e = .returned (.slice none 0 0) ∧ w = w' := by
  go_enter Tryd.func17, Tryd.ntmps17
  go_wp2_with fail
  go_ret
  exact ⟨rfl, rfl⟩
end Go.Proofs.YthppbefemfkccaaDoor
namespace Go.Proofs.YthppbefemfkccaaDoor
open Go.RowKit

theorem acc_inj (k : Nat) : ∀ (a b : Nat) (l m : List UInt8), l.length = k → m.length = k → acc a l = acc b m → a = b ∧ l = m := by
  induction k with
  | zero =>
    intro a b l m hl hm h
    obtain rfl := List.eq_nil_of_length_eq_zero hl
    obtain rfl := List.eq_nil_of_length_eq_zero hm
    exact ⟨h, rfl⟩
  | succ k ih =>
    intro a b l m hl hm h
    have hl0 : l ≠ [] := by rintro rfl; simp at hl
    have hm0 : m ≠ [] := by rintro rfl; simp at hm
    obtain ⟨l', c, rfl⟩ : ∃ l' c, l = l' ++ [c] := ⟨l.dropLast, l.getLast hl0, (List.dropLast_concat_getLast hl0).symm⟩
    obtain ⟨m', d, rfl⟩ : ∃ m' d, m = m' ++ [d] := ⟨m.dropLast, m.getLast hm0, (List.dropLast_concat_getLast hm0).symm⟩
    rw [acc_snoc, acc_snoc] at h
    have h1 := c.toNat_lt
    have h2 := d.toNat_lt
    rw [List.length_append, List.length_singleton] at hl hm
    have h3 := ih a b l' m' (by omega) (by omega) (by omega)
    have h4 : c = d := by
      rw [h3.1, h3.2] at h
      exact UInt8.toNat_inj.1 (by omega)
    exact ⟨h3.1, by rw [h3.2, h4]⟩
theorem numB_inv {l : List UInt8} {n k : Nat} (h : numB l = (n, k, 0)) : l = uintB n ++ l.drop k := by
  cases l with
  | nil => simp [numB] at h
  | cons b t =>
    rw [numB_cons] at h
    split at h
    · cases h
    · rename_i h1
      split at h
      · rename_i h2
        injection h with h3 h4
        injection h4 with h5 h6
        subst h5
        rw [h3] at h2
        have hk : lead b ≤ t.length := by omega
        have hlt : (t.take (lead b)).length = lead b := by rw [List.length_take]; omega
        have hi := acc_inj (lead b) (tail b) (n / 2 ^ (8 * bh n)) (t.take (lead b)) (be (bh n) n) hlt (by simp [h2]) (by rw [h3, acc_be])
        unfold uintB
        rw [← hi.1, ← hi.2, h2, List.drop_succ_cons, List.cons_append, List.take_append_drop]
        congr 1
        have hh := lead_head b
        refine UInt8.toNat_inj.1 ?_
        unfold tail
        rw [UInt8.toNat_ofNat']
        have := b.toNat_lt
        omega
      · cases h
end Go.Proofs.YthppbefemfkccaaDoor
namespace Go.Proofs.YthppbefemfkccaaDoor
open Go.RowKit
attribute [local irreducible] bitsK orAll

theorem bnd_inv {most : Nat} {above left : Int} {l : List UInt8} (ha : above ≠ 0) (h : (bnd most above left l).2.1 = 0) : l = uintB (bnd most above left l).2.2 ++ (bnd most above left l).1 := by
  obtain ⟨⟨n, k, er⟩, hnb⟩ : ∃ r, r = numB l := ⟨_, rfl⟩
  unfold bnd at h ⊢
  rw [← hnb] at h ⊢
  split at h
  · rename_i h1; exact absurd h h1
  · rename_i h1
    rw [if_neg h1]
    split at h
    · exact absurd h ha
    · rename_i h2
      rw [if_neg h2]
      split at h
      · rename_i h3; exact absurd h h3.2
      · rename_i h3
        rw [if_neg h3]
        have he : er = 0 := by simpa using h1
        rw [he] at hnb
        exact numB_inv hnb.symm
theorem uintR_inv {most : Nat} {l : List UInt8} {e : Int} (h : (uintR most l e).2.1 = 0) : e = 0 ∧ l = uintB (uintR most l e).2.2 ++ (uintR most l e).1 := by
  unfold uintR at h ⊢
  split at h
  · rename_i h1; exact absurd h h1
  · rename_i h1
    rw [if_neg h1]
    exact ⟨by simpa using h1, bnd_inv (by decide) h⟩
theorem bytesR_inv {most : Int} {l : List UInt8} {e : Int} (h : (bytesR most l e).2.1 = 0) : e = 0 ∧ l = lenB (bytesR most l e).2.2 ++ (bytesR most l e).1 := by
  unfold bytesR at h ⊢
  split at h
  · rename_i h1; exact absurd h h1
  · rename_i h1
    rw [if_neg h1]
    split at h
    · exact absurd h (show ¬ (1 : Int) = 0 by decide)
    · rename_i h2
      rw [if_neg h2]
      split at h
      · rename_i h3; exact absurd h h3
      · rename_i h3
        rw [if_neg h3]
        have h4 : (bnd most.toNat 2 12 l).2.1 = 0 := by simpa using h3
        have h5 := bnd_inv (by decide) h4
        have h6 := (bnd_good (by decide) (by decide) h4).1
        refine ⟨by simpa using h1, ?_⟩
        unfold lenB
        rw [List.length_take, Nat.min_eq_left h6, List.append_assoc, List.take_append_drop]
        exact h5
/-- A filter's bytes, read and told again. -/
theorem enc_dec {b : List UInt8} (h : decOk b) : encK (nK b) (kK b) (xK b) = b := by
  have h1 := h.1
  unfold decE doneR at h1
  have h2 : (decX b).2.1 = 0 ∧ (decX b).1.length = 0 := by
    split at h1
    · rename_i h3; exact absurd h1 h3
    · rename_i h3
      split at h1
      · rename_i h4; exact ⟨by simpa using h3, h4⟩
      · exact absurd h1 (by decide)
  have h3 : (decX b).1 = [] := List.eq_nil_of_length_eq_zero h2.2
  have i1 := bytesR_inv (show (bytesR (b.length : Int) (decA b).1 (decA b).2.1).2.1 = 0 from h2.1)
  have i2 := uintR_inv (show (uintR 16 (decN b).1 (decN b).2.1).2.1 = 0 from i1.1)
  have i3 := uintR_inv (show (uintR 1048576 b 0).2.1 = 0 from i2.1)
  have j1 : (decA b).1 = lenB (xK b) ++ (decX b).1 := i1.2
  have j2 : (decN b).1 = uintB (kK b) ++ (decA b).1 := i2.2
  have j3 : b = uintB (nK b) ++ (decN b).1 := i3.2
  rw [h3, List.append_nil] at j1
  rw [j1] at j2
  rw [j2] at j3
  unfold encK
  rw [List.append_assoc]
  exact j3.symm
end Go.Proofs.YthppbefemfkccaaDoor
