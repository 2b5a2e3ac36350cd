/- The document's bits that a key asks for, and numbers held against one another: contracts. -/
import Derived.Test.YthppbefemfkccaaDoorBloomRef
import Derived.Deep.DeepCutAuto
namespace Go.Proofs.YthppbefemfkccaaDoor
open Go.RowKit
attribute [local irreducible] bitsK orAll

theorem encI_snoc (l : List Nat) (i : Nat) (h : i < l.length) : encI (l.take (i + 1)) = encI (l.take i) ++ [.int .i64 (l[i] : Int)] := by
  rw [List.take_succ_eq_append_getElem h]
  unfold encI
  rw [List.map_append]
  rfl
def RBitsP (n k : Nat) (s : List UInt8) (w : World) (e : Ending) (w' : World) : Prop :=
  ∃ A c, e = .returned (.slice A k c) ∧ Rd w' A k 1 (encI (bitsK n k s)) ∧ Keeps [] w w'
set_option maxHeartbeats 8000000 in
theorem rbits_any (gb n k : Nat) (s : List UInt8) (w : World) (hn : 1 ≤ n ∧ n ≤ 1048576) (hk : 1 ≤ k ∧ k ≤ 16) (hs : s.length ≤ 140737488351232) :
    Calls Tryd.prog 12 #[.agg #[.int .i64 (k : Int), .slice (some ⟨gb, 0, none⟩) n n], .string (strB s)] w (RBitsP n k s w) := by
  have HS := Lib.hid hs
  obtain ⟨W0, hW0⟩ : ∃ W0, W0 = w.alloc (.cells #[.int .i64 (k : Int), .slice (some ⟨gb, 0, none⟩) n n] 31) := ⟨_, rfl⟩
  have HB0 := Lib.hid (show W0.heap[w.heap.size]? = some (.cells #[.int .i64 (k : Int), .slice (some ⟨gb, 0, none⟩) n n] 31 (0, 0)) ∧ Keeps [] w W0 from by rw [hW0]; exact ⟨heap_alloc_new _ _, (Keeps.refl [] w).alloc _⟩)
  have HW0 := Lib.hid hW0
  have kc := Lib.run_convert_string_bytes (P := Tryd.prog) W0 9 44 5 (strB s) Tryd.underlying9 Tryd.underlying44 Tryd.underlying5
  rw [strB_size] at kc
  obtain ⟨W1, hW1⟩ : ∃ W1, W1 = Lib.bytesWorld W0 5 (strB s) := ⟨_, rfl⟩
  have HK1 := Lib.hid (show Keeps [] W0 W1 by rw [hW1]; exact keeps_conv W0 _ _)
  have HR1 := Lib.hid (show RdB W1 (some ⟨W0.heap.size, 0, none⟩) s by rw [hW1]; exact rd_conv W0 _ s)
  rw [← hW1] at kc
  obtain ⟨a, ha⟩ : ∃ a, a = keyA s := ⟨_, rfl⟩
  obtain ⟨b, hb⟩ : ∃ b, b = keyB s := ⟨_, rfl⟩
  have ha2 : a < 2147483647 := by rw [ha]; exact keyA_lt s
  have hb2 : b < 2147483647 := by rw [hb]; exact keyB_lt s
  have HA := Lib.hid (show hmore 1 s = (a : Int) by rw [ha]; exact keyA_is s)
  have HB := Lib.hid (show hmore 1 (1 :: s) = (b : Int) by rw [hb]; exact keyB_is s)
  have HBK := Lib.hid (show ∀ i, bitK n s i = (a + i * b) % n from fun i => by rw [ha, hb]; rfl)
  have HLK := Lib.hid (bitsK_len n k s)
  have HGT := Lib.hid (show ∀ i (h : i < k), (bitsK n k s)[i]'(by rw [bitsK_len]; exact h) = bitK n s i from fun i h => bitsK_get n k s i h)
  obtain ⟨hn1, hn2⟩ := hn
  obtain ⟨hk1, hk2⟩ := hk
  clear hs hW0 hW1 ha hb
  go_enter Tryd.func12, Tryd.ntmps12
  go_upto_region 1 with fail
  rw [← HW0.out]
  go_wp2_with fail
  refine (refsum_any (some ⟨W0.heap.size, 0, none⟩) s _ W1 (by have := HS.out; omega) HR1.out).mono ?_
  rintro e w1 ⟨rfl, rfl⟩
  rw [HA.out]
  have hown := own_of_block (E := 5) (w := W1.alloc (.cells (encB [1]).toArray 5)) (g := W1.heap.size) (l := [1]) (heap_alloc_new _ _) (by decide)
  have HOW := Lib.hid hown
  clear hown kc
  go_wp2_with (at_builtin; refine wpList_appendS rfl (.tmp 12) (.tmp 13) 44 9 5 rfl Tryd.underlying44 Tryd.underlying9 infoB8 (some ⟨W1.heap.size, 0, none⟩) 1 [1] rfl HOW.out s rfl (by have := HS.out; simp; omega) ?_
               intro A2 c2 w2 l2 hl2 ho2 hk2 hb2
               have H2 := Lib.hid (show RdB w2 A2 l2 ∧ l2 = 1 :: s ∧ Keeps [] W0 w2 from ⟨ho2.rd, hl2.out, (HK1.out.alloc _).fresh hk2 (fun ad e => by cases e; exact HK1.out.size)⟩)
               clear hl2 ho2 hk2 hb2 HOW)
  refine (refsum_any A2 l2 c2 w2 (by rw [H2.out.2.1]; have := HS.out; simp; omega) H2.out.1).mono ?_
  rintro e w3 ⟨rfl, rfl⟩
  rw [H2.out.2.1, HB.out]
  have INV := Lib.hid (show w2.ownsRow 0 3 1 (.slice none 0 0) 0 (encI ((bitsK n k s).take 0)) ∧ w2.heap[w.heap.size]? = some (.cells #[.int .i64 (k : Int), .slice (some ⟨gb, 0, none⟩) n n] 31 (0, 0)) ∧ Keeps [] w w2 ∧ (∀ a, (none : Option Addr) = some a → w.heap.size < a.block) from
    ⟨by rw [List.take_zero]; exact World.ownsRow_nil w2 0 3 1, (H2.out.2.2.block _ (lt_of_block HB0.out.1) (by simp)).trans HB0.out.1, HB0.out.2.trans H2.out.2.2 (by simp), by simp⟩)
  clear H2 HK1 HR1 HB0 HW0
  go_wp2_with fail
  go_loopw [7, 8] (fun sl si wr => ∃ (i : Nat) (A : Option Addr) (c : Nat), i ≤ k ∧ si = .int .i64 i ∧ sl = .slice A i c ∧ Hid (wr.ownsRow 0 3 1 (.slice A i c) i (encI ((bitsK n k s).take i)) ∧ wr.heap[w.heap.size]? = some (.cells #[.int .i64 (k : Int), .slice (some ⟨gb, 0, none⟩) n n] 31 (0, 0)) ∧ Keeps [] w wr ∧ (∀ a, A = some a → w.heap.size < a.block))) (fun _ si _ => k - (intOf si).toNat)
  case atStart => exact ⟨0, none, 0, Nat.zero_le _, rfl, rfl, INV.out⟩
  case round =>
    clear INV
    obtain ⟨i, A, c, hi, rfl, rfl, hinv⟩ := hrel
    have q0 : wr.cell? ⟨w.heap.size, 0, none⟩ = some (.int .i64 (k : Int)) := by rw [cell_of_row _ _ _ _ _ _ hinv.out.2.1]; rfl
    have q1 : wr.cell? ⟨w.heap.size, 1, none⟩ = some (.slice (some ⟨gb, 0, none⟩) n n) := by rw [cell_of_row _ _ _ _ _ _ hinv.out.2.1]; rfl
    by_cases hlt : i < k
    · have hik : (i : Int) < (k : Int) := by omega
      obtain ⟨m, hm⟩ : ∃ m, m = i * b := ⟨_, rfl⟩
      obtain ⟨sm, hsm⟩ : ∃ z, z = a + m := ⟨_, rfl⟩
      obtain ⟨r, hr⟩ : ∃ r, r = sm % n := ⟨_, rfl⟩
      have hmb : m < 34359738368 := by
        have h1 : i * b ≤ 15 * 2147483647 := Nat.mul_le_mul (by omega) (by omega)
        omega
      have f0 : IntKind.u64.wrap (i : Int) = (i : Int) := by rw [IntKind.wrap_u64]; omega
      have f1 : IntKind.u64.wrap ((i : Int) * (b : Int)) = (m : Int) := by
        rw [show (i : Int) * (b : Int) = (m : Int) by rw [hm]; simp, IntKind.wrap_u64]; omega
      have f2 : IntKind.u64.wrap ((a : Int) + (m : Int)) = (sm : Int) := by rw [IntKind.wrap_u64]; omega
      have f3 : IntKind.u64.wrap (n : Int) = (n : Int) := by rw [IntKind.wrap_u64]; omega
      have f4 : (sm : Int).tmod (n : Int) = (r : Int) := by rw [Int.tmod_eq_emod_of_nonneg (by omega), hr]; simp
      have f5 : IntKind.i64.wrap (r : Int) = (r : Int) := by
        have : r < n := by rw [hr]; exact Nat.mod_lt _ (by omega)
        rw [IntKind.wrap_i64]; omega
      have f6 : ((n : Int) == 0) = false := by simp; omega
      have HST := Lib.hid (show encI ((bitsK n k s).take (i + 1)) = encI ((bitsK n k s).take i) ++ [.int .i64 (r : Int)] by
        rw [encI_snoc _ i (by rw [HLK.out]; exact hlt), HGT.out i hlt, HBK.out, hr, hsm, hm])
      have HK2 := Lib.hid (show i + 1 ≤ k ∧ k ≤ 16 from ⟨hlt, hk2⟩)
      have HRD := Lib.hid (show Rd (wr.alloc (.cells #[.int .i64 (r : Int)] 3)) (some ⟨wr.heap.size, 0, none⟩) 1 1 [.int .i64 (r : Int)] from ⟨rfl, fun _ => ⟨_, rfl, fun j u hu => by rw [add_new, Nat.zero_add, cell_of_row _ _ _ _ _ _ (heap_alloc_new _ _)]; simpa using hu⟩⟩)
      clear hm hsm hr hmb
      go_wp2_with (at_builtin; refine wpList_appendV rfl (.tmp 22) (.tmp 37) 37 3 rfl Tryd.underlying37 (.int .i64 0) 1 8 infoI8 rfl (by decide) A c i (encI ((bitsK n k s).take i)) rfl (World.ownsRow.alloc hinv.out.1 _) (some ⟨wr.heap.size, 0, none⟩) 1 1 [.int .i64 (r : Int)] rfl HRD.out (by intro u hu; simp at hu; subst hu; rfl) (by have := HK2.out; simp [maxLen]; omega) (by have := HK2.out; omega) ?_
                   intro A5 c5 w5 ho5 hk5 hb5
                   have H5 := Lib.hid (show w5.ownsRow 0 3 1 (.slice A5 (i + 1) c5) (i + 1) (encI ((bitsK n k s).take (i + 1))) ∧ w5.heap[w.heap.size]? = some (.cells #[.int .i64 (k : Int), .slice (some ⟨gb, 0, none⟩) n n] 31 (0, 0)) ∧ Keeps [] w w5 ∧ (∀ a, A5 = some a → w.heap.size < a.block) from by
                     have hka : Keeps (blk A) wr w5 := ((Keeps.refl (blk A) wr).alloc _).trans hk5 (fun t ht => .inl ht)
                     have hgs := lt_of_block hinv.out.2.1
                     refine ⟨by rw [HST.out]; exact ho5, (hka.block _ hgs (fun hm => ?_)).trans hinv.out.2.1, hinv.out.2.2.1.fresh hka (fun a ha => Nat.le_of_lt (hinv.out.2.2.2 a ha)), fun a ha => ?_⟩
                     · obtain ⟨a1, e1, e2⟩ := mem_blk.1 hm
                       have := hinv.out.2.2.2 a1 e1
                       omega
                     · rcases hb5 a ha with h | h
                       · obtain ⟨a1, e1, e2⟩ := mem_blk.1 h
                         have := hinv.out.2.2.2 a1 e1
                         omega
                       · simp at h; omega)
                   clear ho5 hk5 hb5)
      go_roundw
      case rel => exact ⟨i + 1, A5, c5, HK2.out.1, by go_num, rfl, H5.out⟩
      case measure => have := HK2.out.1; simp [intOf]; omega
    · have hik : ¬ (i : Int) < (k : Int) := by omega
      obtain rfl : i = k := by omega
      clear hlt
      go_wp2_with fail
      go_ret
      have h2 := Rd.of_own hinv.out.1
      rw [List.take_of_length_le (by rw [HLK.out]; omega)] at h2
      exact ⟨A, c, rfl, h2, hinv.out.2.2.1⟩

set_option maxHeartbeats 2000000 in
theorem ints_same (l : List Nat) (k : Nat) (hl : l.length = k) (hk : k ≤ 1000000) (A1 A2 : Option Addr) (c1 c2 : Nat) (w : World) (h1 : Rd w A1 k 1 (encI l)) (h2 : Rd w A2 k 1 (encI l)) :
    Calls Tryd.prog 10 #[.slice A1 k c1, .slice A2 k c2] w fun e w' => e = .returned (.bool true) ∧ Keeps [] w w' := by
  have H1 := Lib.hid h1
  have H2 := Lib.hid h2
  have HL := Lib.hid hl
  clear h1 h2 hl
  have INV := Lib.hid (Keeps.refl [] w)
  go_enter Tryd.func10, Tryd.ntmps10
  go_wp2_with fail
  go_loopw [5] (fun si wr => ∃ i : Nat, i ≤ k ∧ si = .int .i64 i ∧ Hid (Keeps [] w wr)) (fun si _ => k - (intOf si).toNat)
  case atStart => exact ⟨0, Nat.zero_le _, rfl, INV.out⟩
  case round =>
    clear INV
    obtain ⟨i, hi, rfl, hinv⟩ := hrel
    by_cases hlt : i < k
    · have hik : (i : Int) < (k : Int) := by omega
      have HIL := Lib.hid (show i < l.length by rw [HL.out]; exact hlt)
      obtain ⟨v, hv⟩ : ∃ v, v = l[i]'(HIL.out) := ⟨_, rfl⟩
      obtain ⟨a1, rfl, k1⟩ := (H1.out.keeps0 hinv.out).at_ (k := i) (by simpa using HIL.out)
      obtain ⟨a2, rfl, k2⟩ := (H2.out.keeps0 hinv.out).at_ (k := i) (by simpa using HIL.out)
      rw [encI_get l i HIL.out, ← hv] at k1 k2
      have qa : ∀ z : World, (z.cell? (a1.add i) = some (.int .i64 (v : Int)) ∧ z.cell? (a2.add i) = some (.int .i64 (v : Int))) → z.cell? (a1.add i) = some (.int .i64 (v : Int)) := fun z hz => hz.1
      have qb : ∀ z : World, (z.cell? (a1.add i) = some (.int .i64 (v : Int)) ∧ z.cell? (a2.add i) = some (.int .i64 (v : Int))) → z.cell? (a2.add i) = some (.int .i64 (v : Int)) := fun z hz => hz.2
      have HKK := Lib.hid (And.intro k1 k2)
      clear hv k1 k2
      go_wp2_with fail
      refine seq_start (by kernel_rfl) (fun z => z.cell? (a1.add i) = some (.int .i64 (v : Int)) ∧ z.cell? (a2.add i) = some (.int .i64 (v : Int))) 9 [0, 1, 2, 3, 4, 5, 6, 7, 8] rfl (HKK.out) (fun hS => ?_)
      refine seq_take (v := ?_) rfl (by kernel_rfl) (by kernel_rfl) (by kernel_rfl) (Or.inl ⟨by rfl, fun w' hSw => ?_⟩) (by assumption) ?_
      rotate_left
      · go_simp
        with_reducible rfl
      simp only [Act.put, List.setIfInBounds_toArray, List.set_cons_zero, List.set_cons_succ]
      refine seq_take (v := ?_) rfl (by kernel_rfl) (by kernel_rfl) (by kernel_rfl) (Or.inl ⟨by rfl, fun w' hSw => ?_⟩) (by assumption) ?_
      rotate_left
      · go_simp
        with_reducible rfl
      simp only [Act.put, List.setIfInBounds_toArray, List.set_cons_zero, List.set_cons_succ]
      refine seq_take (v := ?_) rfl (by kernel_rfl) (by kernel_rfl) (by kernel_rfl) (Or.inl ⟨by rfl, fun w' hSw => ?_⟩) (by assumption) ?_
      rotate_left
      · go_simp
        with_reducible rfl
      simp only [Act.put, List.setIfInBounds_toArray, List.set_cons_zero, List.set_cons_succ]
      refine seq_take (v := ?_) rfl (by kernel_rfl) (by kernel_rfl) (by kernel_rfl) (Or.inl ⟨by rfl, fun w' hSw => ?_⟩) (by assumption) ?_
      rotate_left
      · go_simp
        with_reducible rfl
      simp only [Act.put, List.setIfInBounds_toArray, List.set_cons_zero, List.set_cons_succ]
      refine seq_take (v := ?_) rfl (by kernel_rfl) (by kernel_rfl) (by kernel_rfl) (Or.inl ⟨by rfl, fun w' hSw => ?_⟩) (by assumption) ?_
      rotate_left
      · go_simp
        with_reducible rfl
      simp only [Act.put, List.setIfInBounds_toArray, List.set_cons_zero, List.set_cons_succ]
      refine seq_take (v := ?_) rfl (by kernel_rfl) (by kernel_rfl) (by kernel_rfl) (Or.inl ⟨by rfl, fun w' hSw => ?_⟩) (by assumption) ?_
      rotate_left
      · go_simp
        with_reducible rfl
      simp only [Act.put, List.setIfInBounds_toArray, List.set_cons_zero, List.set_cons_succ]
      refine seq_take (v := ?_) rfl (by kernel_rfl) (by kernel_rfl) (by kernel_rfl) (Or.inl ⟨by rfl, fun w' hSw => ?_⟩) (by assumption) ?_
      rotate_left
      · go_simp
        with_reducible rfl
      simp only [Act.put, List.setIfInBounds_toArray, List.set_cons_zero, List.set_cons_succ]
      refine seq_take (v := ?_) rfl (by kernel_rfl) (by kernel_rfl) (by kernel_rfl) (Or.inl ⟨by rfl, fun w' hSw => ?_⟩) (by assumption) ?_
      rotate_left
      · go_simp
        with_reducible rfl
      simp only [Act.put, List.setIfInBounds_toArray, List.set_cons_zero, List.set_cons_succ]
      refine seq_take (v := ?_) rfl (by kernel_rfl) (by kernel_rfl) (by kernel_rfl) (Or.inl ⟨by rfl, fun w' hSw => ?_⟩) (by assumption) ?_
      rotate_left
      · go_simp
        with_reducible rfl
      simp only [Act.put, List.setIfInBounds_toArray, List.set_cons_zero, List.set_cons_succ]
      refine seq_done (by kernel_rfl) ?_
      all_goals skip
      have HI := Lib.hid hinv.out.drew
      clear qa qb hS hinv HKK
      generalize wr.drew = V at HI ⊢
      go_wp2_with fail
      go_roundw
      case rel => exact ⟨i + 1, by omega, by go_num, HI.out⟩
      case measure => simp [intOf]; omega
    · have hik : ¬ (i : Int) < (k : Int) := by omega
      clear hlt
      go_wp2_with fail
      go_ret
      exact ⟨rfl, hinv.out⟩
end Go.Proofs.YthppbefemfkccaaDoor
