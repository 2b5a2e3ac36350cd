/- The document's text of a sum: a contract. -/
import Derived.Test.YtomleanoofoejaaDoorKecText
namespace Go.Proofs.YtomleanoofoejaaDoor
open Go.RowKit
theorem digK_part (i : Nat) (h : i < 16) : (digK.drop i).take (i + 1 - i) = [digK.getD i 0] := by
  have : ∀ i, i < 16 → (digK.drop i).take (i + 1 - i) = [digK.getD i 0] := by decide
  exact this i h
theorem strB_append2 (a b : List UInt8) : strB a ++ strB b = strB (a ++ b) := by
  apply ByteArray.ext
  show (strB a ++ strB b).data = (strB (a ++ b)).data
  simp [strB]

set_option maxHeartbeats 2000000 in
theorem reftext_any (l : List UInt8) (w : World) (hl : l.length = 32) :
    Calls Tryd.prog 14 #[.agg (encB l).toArray] w fun e w' => e = .returned (.string (strB (hexAll l))) ∧ Keeps [] w w' := by
  obtain ⟨cs, hcs⟩ : ∃ cs, cs = (encB l).toArray := ⟨_, rfl⟩
  rw [← hcs]
  have HCS := Lib.hid hcs
  have HL := Lib.hid hl
  clear hcs hl
  go_enter Tryd.func14, Tryd.ntmps14
  go_wp2_with fail
  have INV := Lib.hid (show (w.alloc (.cells cs 25)).heap[w.heap.size]? = some (.cells (encB l).toArray 25 (0, 0)) ∧ Keeps [] w (w.alloc (.cells cs 25)) from ⟨by rw [HCS.out]; exact heap_alloc_new _ _, (Keeps.refl [] w).alloc _⟩)
  go_loopw [3, 4] (fun s i wr => ∃ (k : Nat) (o : List UInt8), k ≤ 32 ∧ i = .int .i64 k ∧ s = .string (strB o) ∧ Hid (o = hexAll (l.take k)) ∧ Hid (wr.heap[w.heap.size]? = some (.cells (encB l).toArray 25 (0, 0)) ∧ Keeps [] w wr)) (fun _ i _ => 32 - (intOf i).toNat)
  case atStart => exact ⟨0, [], by omega, rfl, rfl, rfl, INV.out⟩
  case round =>
    clear INV
    obtain ⟨k, o, hk, rfl, rfl, ho, hinv⟩ := hrel
    by_cases hlt : k < 32
    · have hi : (k : Int) < 32 := by omega
      have HLT := Lib.hid (show k < l.length by rw [HL.out]; exact hlt)
      obtain ⟨b, hb⟩ : ∃ b, b = l[k]'(HLT.out) := ⟨_, rfl⟩
      have q0 : ∀ z : World, z.heap[w.heap.size]? = some (.cells (encB l).toArray 25 (0, 0)) → z.cell? ⟨w.heap.size, k, none⟩ = some (.int .u8 (b.toNat : Int)) := fun z hz => by
        rw [cell_of_row _ _ _ _ _ _ hz, List.getElem?_toArray, List.getElem?_eq_getElem (by simpa using HLT.out), encB_get l k HLT.out, hb]
      obtain ⟨q, hq⟩ : ∃ q, q = b.toNat / 16 := ⟨_, rfl⟩
      obtain ⟨r, hr⟩ : ∃ r, r = b.toNat % 16 := ⟨_, rfl⟩
      have hbl := b.toNat_lt
      have d1 : (b.toNat : Int).tdiv 16 = (q : Int) := by rw [Int.tdiv_eq_ediv_of_nonneg (by omega)]; omega
      have d2 : IntKind.u8.wrap (q : Int) = (q : Int) := by rw [IntKind.wrap_u8]; omega
      have d3 : IntKind.u8.wrap ((q : Int) + 1) = ((q + 1 : Nat) : Int) := by rw [IntKind.wrap_u8]; omega
      have d4 : (b.toNat : Int).tmod 16 = (r : Int) := by rw [Int.tmod_eq_emod_of_nonneg (by omega)]; omega
      have d5 : IntKind.u8.wrap (r : Int) = (r : Int) := by rw [IntKind.wrap_u8]; omega
      have d6 : IntKind.u8.wrap ((r : Int) + 1) = ((r + 1 : Nat) : Int) := by rw [IntKind.wrap_u8]; omega
      have HQ := Lib.hid (show q < 16 ∧ r < 16 by omega)
      have HX := Lib.hid (show hexB b = [digK.getD q 0, digK.getD r 0] by unfold hexB; rw [hq, hr])
      have HB := Lib.hid hb
      have sa := strB_append2
      obtain ⟨c1, hc1⟩ : ∃ c, c = digK.getD q 0 := ⟨_, rfl⟩
      obtain ⟨c2, hc2⟩ : ∃ c, c = digK.getD r 0 := ⟨_, rfl⟩
      rw [← hc1, ← hc2] at HX
      have HC1 := Lib.hid hc1
      have HC2 := Lib.hid hc2
      have HOL : o.length ≤ 64 := by rw [ho.out, hexAll_len, List.length_take]; omega
      have n1 : ¬ 9223372036854775807 < (strB o).size + (strB [c1]).size := by show ¬ _ < o.length + 1; omega
      have n2 : ¬ 9223372036854775807 < (strB (o ++ [c1])).size + (strB [c2]).size := by show ¬ _ < (o ++ [c1]).length + 1; simp; omega
      clear hq hr hbl hb hc1 hc2 HOL
      go_wp2_with fail
      refine seq_start (by kernel_rfl) (fun z => z.heap[w.heap.size]? = some (.cells (encB l).toArray 25 (0, 0))) 24 [0, 1, 2, 3, 4, 5, 6, 7, 8, 9, 10, 11, 12, 13, 14, 15, 16, 17, 18, 19, 20, 21, 22, 23] rfl (hinv.out.1) (fun hS => ?_)
      refine seq_take (v := ?_) rfl (by kernel_rfl) (by kernel_rfl) (by kernel_rfl) (Or.inl ⟨by rfl, fun w' hSw => ?_⟩) (by assumption) ?_
      rotate_left
      · go_simp
        with_reducible rfl
      simp only [Act.put, List.setIfInBounds_toArray, List.set_cons_zero, List.set_cons_succ]
      refine seq_take (v := ?_) rfl (by kernel_rfl) (by kernel_rfl) (by kernel_rfl) (Or.inl ⟨by rfl, fun w' hSw => ?_⟩) (by assumption) ?_
      rotate_left
      · go_simp
        with_reducible rfl
      simp only [Act.put, List.setIfInBounds_toArray, List.set_cons_zero, List.set_cons_succ]
      refine seq_take (v := ?_) rfl (by kernel_rfl) (by kernel_rfl) (by kernel_rfl) (Or.inl ⟨by rfl, fun w' hSw => ?_⟩) (by assumption) ?_
      rotate_left
      · go_simp
        with_reducible rfl
      simp only [Act.put, List.setIfInBounds_toArray, List.set_cons_zero, List.set_cons_succ]
      refine seq_take (v := ?_) rfl (by kernel_rfl) (by kernel_rfl) (by kernel_rfl) (Or.inl ⟨by rfl, fun w' hSw => ?_⟩) (by assumption) ?_
      rotate_left
      · go_simp
        with_reducible rfl
      simp only [Act.put, List.setIfInBounds_toArray, List.set_cons_zero, List.set_cons_succ]
      refine seq_take (v := ?_) rfl (by kernel_rfl) (by kernel_rfl) (by kernel_rfl) (Or.inl ⟨by rfl, fun w' hSw => ?_⟩) (by assumption) ?_
      rotate_left
      · go_simp
        with_reducible rfl
      simp only [Act.put, List.setIfInBounds_toArray, List.set_cons_zero, List.set_cons_succ]
      refine seq_take (v := ?_) rfl (by kernel_rfl) (by kernel_rfl) (by kernel_rfl) (Or.inl ⟨by rfl, fun w' hSw => ?_⟩) (by assumption) ?_
      rotate_left
      · go_simp
        with_reducible rfl
      simp only [Act.put, List.setIfInBounds_toArray, List.set_cons_zero, List.set_cons_succ]
      refine seq_take (v := ?_) rfl (by kernel_rfl) (by kernel_rfl) (by kernel_rfl) (Or.inl ⟨by rfl, fun w' hSw => ?_⟩) (by assumption) ?_
      rotate_left
      · go_simp
        with_reducible rfl
      simp only [Act.put, List.setIfInBounds_toArray, List.set_cons_zero, List.set_cons_succ]
      refine seq_take (v := ?_) rfl (by kernel_rfl) (by kernel_rfl) (by kernel_rfl) (Or.inl ⟨by rfl, fun w' hSw => ?_⟩) (by assumption) ?_
      rotate_left
      · go_simp
        with_reducible rfl
      simp only [Act.put, List.setIfInBounds_toArray, List.set_cons_zero, List.set_cons_succ]
      refine seq_take (v := ?_) rfl (by kernel_rfl) (by kernel_rfl) (by kernel_rfl) (Or.inl ⟨by rfl, fun w' hSw => ?_⟩) (by assumption) ?_
      rotate_left
      · go_simp
        with_reducible rfl
      simp only [Act.put, List.setIfInBounds_toArray, List.set_cons_zero, List.set_cons_succ]
      refine seq_take (v := ?_) rfl (by kernel_rfl) (by kernel_rfl) (by kernel_rfl) (Or.inl ⟨by rfl, fun w' hSw => ?_⟩) (by assumption) ?_
      rotate_left
      · go_simp
        with_reducible rfl
      simp only [Act.put, List.setIfInBounds_toArray, List.set_cons_zero, List.set_cons_succ]
      refine seq_take (v := .string (strB [c1])) rfl (by kernel_rfl) (by kernel_rfl) (by kernel_rfl) ?_ (by assumption) ?_
      · exact yieldsIf_slcS (by rfl) 9 _ (.tmp 13) (.tmp 18) (by rfl) Tryd.underlying9 digK .u8 .u8 q (q + 1) (by rfl) (by rfl) (by rfl) (Nat.le_succ q) (HQ.out.1) _ (by rw [digK_part q HQ.out.1, HC1.out])
      simp only [Act.put, List.setIfInBounds_toArray, List.set_cons_zero, List.set_cons_succ]
      refine seq_take (v := ?_) rfl (by kernel_rfl) (by kernel_rfl) (by kernel_rfl) (Or.inl ⟨by rfl, fun w' hSw => ?_⟩) (by assumption) ?_
      rotate_left
      · go_simp
        with_reducible rfl
      simp only [Act.put, List.setIfInBounds_toArray, List.set_cons_zero, List.set_cons_succ]
      refine seq_take (v := ?_) rfl (by kernel_rfl) (by kernel_rfl) (by kernel_rfl) (Or.inl ⟨by rfl, fun w' hSw => ?_⟩) (by assumption) ?_
      rotate_left
      · go_simp
        with_reducible rfl
      simp only [Act.put, List.setIfInBounds_toArray, List.set_cons_zero, List.set_cons_succ]
      refine seq_take (v := ?_) rfl (by kernel_rfl) (by kernel_rfl) (by kernel_rfl) (Or.inl ⟨by rfl, fun w' hSw => ?_⟩) (by assumption) ?_
      rotate_left
      · go_simp
        with_reducible rfl
      simp only [Act.put, List.setIfInBounds_toArray, List.set_cons_zero, List.set_cons_succ]
      refine seq_take (v := ?_) rfl (by kernel_rfl) (by kernel_rfl) (by kernel_rfl) (Or.inl ⟨by rfl, fun w' hSw => ?_⟩) (by assumption) ?_
      rotate_left
      · go_simp
        with_reducible rfl
      simp only [Act.put, List.setIfInBounds_toArray, List.set_cons_zero, List.set_cons_succ]
      refine seq_take (v := ?_) rfl (by kernel_rfl) (by kernel_rfl) (by kernel_rfl) (Or.inl ⟨by rfl, fun w' hSw => ?_⟩) (by assumption) ?_
      rotate_left
      · go_simp
        with_reducible rfl
      simp only [Act.put, List.setIfInBounds_toArray, List.set_cons_zero, List.set_cons_succ]
      refine seq_take (v := ?_) rfl (by kernel_rfl) (by kernel_rfl) (by kernel_rfl) (Or.inl ⟨by rfl, fun w' hSw => ?_⟩) (by assumption) ?_
      rotate_left
      · go_simp
        with_reducible rfl
      simp only [Act.put, List.setIfInBounds_toArray, List.set_cons_zero, List.set_cons_succ]
      refine seq_take (v := ?_) rfl (by kernel_rfl) (by kernel_rfl) (by kernel_rfl) (Or.inl ⟨by rfl, fun w' hSw => ?_⟩) (by assumption) ?_
      rotate_left
      · go_simp
        with_reducible rfl
      simp only [Act.put, List.setIfInBounds_toArray, List.set_cons_zero, List.set_cons_succ]
      refine seq_take (v := ?_) rfl (by kernel_rfl) (by kernel_rfl) (by kernel_rfl) (Or.inl ⟨by rfl, fun w' hSw => ?_⟩) (by assumption) ?_
      rotate_left
      · go_simp
        with_reducible rfl
      simp only [Act.put, List.setIfInBounds_toArray, List.set_cons_zero, List.set_cons_succ]
      refine seq_take (v := ?_) rfl (by kernel_rfl) (by kernel_rfl) (by kernel_rfl) (Or.inl ⟨by rfl, fun w' hSw => ?_⟩) (by assumption) ?_
      rotate_left
      · go_simp
        with_reducible rfl
      simp only [Act.put, List.setIfInBounds_toArray, List.set_cons_zero, List.set_cons_succ]
      refine seq_take (v := ?_) rfl (by kernel_rfl) (by kernel_rfl) (by kernel_rfl) (Or.inl ⟨by rfl, fun w' hSw => ?_⟩) (by assumption) ?_
      rotate_left
      · go_simp
        with_reducible rfl
      simp only [Act.put, List.setIfInBounds_toArray, List.set_cons_zero, List.set_cons_succ]
      refine seq_take (v := .string (strB [c2])) rfl (by kernel_rfl) (by kernel_rfl) (by kernel_rfl) ?_ (by assumption) ?_
      · exact yieldsIf_slcS (by rfl) 9 _ (.tmp 24) (.tmp 29) (by rfl) Tryd.underlying9 digK .u8 .u8 r (r + 1) (by rfl) (by rfl) (by rfl) (Nat.le_succ r) (HQ.out.2) _ (by rw [digK_part r HQ.out.2, HC2.out])
      simp only [Act.put, List.setIfInBounds_toArray, List.set_cons_zero, List.set_cons_succ]
      refine seq_take (v := ?_) rfl (by kernel_rfl) (by kernel_rfl) (by kernel_rfl) (Or.inl ⟨by rfl, fun w' hSw => ?_⟩) (by assumption) ?_
      rotate_left
      · go_simp
        with_reducible rfl
      simp only [Act.put, List.setIfInBounds_toArray, List.set_cons_zero, List.set_cons_succ]
      refine seq_take (v := ?_) rfl (by kernel_rfl) (by kernel_rfl) (by kernel_rfl) (Or.inl ⟨by rfl, fun w' hSw => ?_⟩) (by assumption) ?_
      rotate_left
      · go_simp
        with_reducible rfl
      simp only [Act.put, List.setIfInBounds_toArray, List.set_cons_zero, List.set_cons_succ]
      refine seq_done (by kernel_rfl) ?_
      all_goals skip
      have HI := Lib.hid (show wr.drew.heap[w.heap.size]? = some (.cells (encB l).toArray 25 (0, 0)) ∧ Keeps [] w wr.drew from ⟨hinv.out.1, hinv.out.2.drew⟩)
      clear hinv q0
      generalize wr.drew = V at HI ⊢
      go_wp2_with fail
      go_roundw
      case rel =>
        refine ⟨k + 1, o ++ hexB b, by omega, by go_num, ?_, ?_, HI.out⟩
        · rw [HX.out]
        · show _ = _
          rw [ho.out, hexAll_snoc l k HLT.out, ← HB.out]
      case measure => simp [intOf]; omega
    · have hi : ¬ (k : Int) < 32 := by omega
      have HK32 := Lib.hid (show k = l.length by rw [HL.out]; omega)
      clear hlt
      go_wp2_with fail
      go_ret
      refine ⟨?_, hinv.out.2⟩
      rw [ho.out, HK32.out, List.take_length]; rfl
end Go.Proofs.YtomleanoofoejaaDoor
