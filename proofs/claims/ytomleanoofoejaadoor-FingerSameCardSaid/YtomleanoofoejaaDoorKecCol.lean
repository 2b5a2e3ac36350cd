/- The columns' step: a contract. -/
import Derived.Test.YtomleanoofoejaaDoorKecRot
import Derived.Test.YtomleanoofoejaaDoorRegionZ
namespace Go.Proofs.YtomleanoofoejaaDoor
open Go.RowKit

/-- Lanes in a block, other cells behind them. -/
def St (w : World) (g : Nat) (T : TypeId) (rest : List Value) (L : List Nat) : Prop := w.heap[g]? = some (.cells (encN L ++ rest).toArray T (0, 0))
theorem St.lt {w : World} {g : Nat} {T : TypeId} {rest : List Value} {L : List Nat} (h : St w g T rest L) : g < w.heap.size := lt_of_block h
theorem St.keeps {S : List Nat} {w w' : World} {g : Nat} {T : TypeId} {rest : List Value} {L : List Nat} (h : St w g T rest L) (hk : Keeps S w w') (hg : g ∉ S) : St w' g T rest L := (hk.block g h.lt hg).trans h
theorem St.cell {w : World} {g : Nat} {T : TypeId} {rest : List Value} {L : List Nat} (h : St w g T rest L) (i : Nat) (hi : i < L.length) : w.cell? ⟨g, i, none⟩ = some (.int .u64 (ln L i : Int)) := by
  rw [cell_of_row _ _ _ _ _ _ h]
  simp only [List.getElem?_toArray]
  rw [List.getElem?_append_left (by simpa using hi), encN_get L i hi]
theorem St.frozen {w : World} {g : Nat} {T : TypeId} {rest : List Value} {L : List Nat} (h : St w g T rest L) (i : Nat) : w.frozen? ⟨g, i, none⟩ = false := frozen_of_row w g i _ _ h
theorem St.set {w : World} {g : Nat} {T : TypeId} {rest : List Value} {L : List Nat} (h : St w g T rest L) (i v : Nat) (hi : i < L.length) : St (w.setCell ⟨g, i, none⟩ (.int .u64 (v : Int))) g T rest (L.set i v) := by
  unfold St
  rw [heap_setCell_same w g i _ _ _ h]
  simp only [List.setIfInBounds_toArray, encN_set]
  rw [List.set_append_left _ _ (by simpa using hi)]
theorem Keeps.at_ {w : World} {g i : Nat} (v : Value) : Keeps [g] w (w.setCell ⟨g, i, none⟩ v) := Keeps.setCell (S := [g]) (p := ⟨g, i, none⟩) (Keeps.refl [g] w) (.inl (by simp)) v
theorem zero5 : (#[.int .u64 0, .int .u64 0, .int .u64 0, .int .u64 0, .int .u64 0] : Array Value) = (encN (List.replicate 5 0) ++ []).toArray := by rfl

theorem wrap_mod5 (j c k : Nat) (h : j + c < 1000) (hk : k = (j + c) % 5) : (IntKind.i64.wrap ((j : Int) + (c : Int))).tmod 5 = (k : Int) := by
  rw [IntKind.wrap_i64, Int.tmod_eq_emod_of_nonneg (by omega)]
  omega
set_option maxHeartbeats 2000000 in
theorem columns_any (g : Nat) (T : TypeId) (rest : List Value) (L : List Nat) (w : World) (h : St w g T rest L) (hL : Wf 25 L) :
    Calls Tryd.prog 40 #[.pointer (some ⟨g, 0, none⟩)] w fun e w' => e = .returned (.tuple #[]) ∧ St w' g T rest (theta L) ∧ Keeps [g] w w' := by
  have H := Lib.hid h
  have HL := Lib.hid hL
  have hgl := h.lt
  clear h hL
  go_enter Tryd.func40, Tryd.ntmps40
  go_wp2_with fail
  rw [zero5]
  have INV := Lib.hid (show St (w.alloc (.cells (encN (List.replicate 5 0) ++ []).toArray 54)) w.heap.size 54 [] (colsTo L 0) ∧ Keeps [] w (w.alloc (.cells (encN (List.replicate 5 0) ++ []).toArray 54)) from ⟨by show _ = _; exact heap_alloc_new _ _, (Keeps.refl [] w).alloc _⟩)
  go_loopw [7] (fun i wr => ∃ j : Nat, j ≤ 25 ∧ i = .int .i64 j ∧ Hid (St wr w.heap.size 54 [] (colsTo L j) ∧ Keeps [] w wr)) (fun i _ => 25 - (intOf i).toNat)
  case atStart => exact ⟨0, by omega, rfl, INV.out⟩
  case round =>
    clear INV
    obtain ⟨j, hj, rfl, hinv⟩ := hrel
    by_cases hlt : j < 25
    · have hi : (j : Int) < 25 := by omega
      have q1 : ∀ x : World, St x g T rest L → x.cell? ⟨g, j, none⟩ = some (.int .u64 (ln L j : Int)) := fun x hx => hx.cell j (by rw [HL.out.1]; exact hlt)
      go_wp2_with fail
      refine seq_start (by kernel_rfl) (fun x => St x g T rest L) 6 [0, 1, 2, 3, 4, 5] rfl (H.out.keeps hinv.out.2.drew (by simp)) (fun hS => ?_)
      refine seq_take (v := ?_) rfl (by kernel_rfl) (by kernel_rfl) (by kernel_rfl) (Or.inl ⟨by rfl, fun w' hSw => ?_⟩) (by assumption) ?_
      rotate_left
      · go_simp
        with_reducible rfl
      simp only [Act.put, List.setIfInBounds_toArray, List.set_cons_zero, List.set_cons_succ]
      refine seq_take (v := ?_) rfl (by kernel_rfl) (by kernel_rfl) (by kernel_rfl) (Or.inl ⟨by rfl, fun w' hSw => ?_⟩) (by assumption) ?_
      rotate_left
      · go_simp
        with_reducible rfl
      simp only [Act.put, List.setIfInBounds_toArray, List.set_cons_zero, List.set_cons_succ]
      refine seq_take (v := ?_) rfl (by kernel_rfl) (by kernel_rfl) (by kernel_rfl) (Or.inl ⟨by rfl, fun w' hSw => ?_⟩) (by assumption) ?_
      rotate_left
      · go_simp
        with_reducible rfl
      simp only [Act.put, List.setIfInBounds_toArray, List.set_cons_zero, List.set_cons_succ]
      refine seq_take (v := ?_) rfl (by kernel_rfl) (by kernel_rfl) (by kernel_rfl) (Or.inl ⟨by rfl, fun w' hSw => ?_⟩) (by assumption) ?_
      rotate_left
      · go_simp
        with_reducible rfl
      simp only [Act.put, List.setIfInBounds_toArray, List.set_cons_zero, List.set_cons_succ]
      refine seq_take (v := ?_) rfl (by kernel_rfl) (by kernel_rfl) (by kernel_rfl) (Or.inl ⟨by rfl, fun w' hSw => ?_⟩) (by assumption) ?_
      rotate_left
      · go_simp
        with_reducible rfl
      simp only [Act.put, List.setIfInBounds_toArray, List.set_cons_zero, List.set_cons_succ]
      refine seq_take (v := ?_) rfl (by kernel_rfl) (by kernel_rfl) (by kernel_rfl) (Or.inl ⟨by rfl, fun w' hSw => ?_⟩) (by assumption) ?_
      rotate_left
      · go_simp
        with_reducible rfl
      simp only [Act.put, List.setIfInBounds_toArray, List.set_cons_zero, List.set_cons_succ]
      refine seq_done (by kernel_rfl) ?_
      all_goals skip
      have HI := Lib.hid (show St wr.drew w.heap.size 54 [] (colsTo L j) ∧ Keeps [] w wr.drew from ⟨hinv.out.1, hinv.out.2.drew⟩)
      clear hinv q1 hS
      generalize wr.drew = V at HI ⊢
      have q2 := HI.out.1.cell (j % 5) (by rw [(HL.out.colsTo j).1]; omega)
      have f2 := HI.out.1.frozen (j % 5)
      have hx := u64_xor_nat (ln (colsTo L j) (j % 5)) (ln L j) ((HL.out.colsTo j).2 _) (HL.out.2 _)
      have HSET := Lib.hid (HI.out.1.set (j % 5) (ln (colsTo L j) (j % 5) ^^^ ln L j) (by rw [(HL.out.colsTo j).1]; omega))
      go_wp2_with fail
      go_roundw
      case rel => exact ⟨j + 1, by omega, by go_num, by rw [colsTo_succ]; exact HSET.out, HI.out.2.trans (Keeps.at_ _) (fun t ht => .inr (by simp at ht; omega))⟩
      case measure => simp [intOf]; omega
    · have HJ := Lib.hid (show j = 25 by omega)
      have hi : ¬ (j : Int) < 25 := by omega
      have INV := Lib.hid (show St wr g T rest (thetaTo (cols L) L 0) ∧ St wr w.heap.size 54 [] (cols L) ∧ Keeps [g] w wr from ⟨H.out.keeps hinv.out.2 (by simp), by have := hinv.out.1; rw [HJ.out] at this; exact this, hinv.out.2.mono (by simp)⟩)
      have HC := Lib.hid (show Wf 5 (cols L) from HL.out.colsTo 25)
      clear hinv hlt hj
      go_wp2_with fail
      go_loopw [21] (fun i wr => ∃ j : Nat, j ≤ 25 ∧ i = .int .i64 j ∧ Hid (St wr g T rest (thetaTo (cols L) L j) ∧ St wr w.heap.size 54 [] (cols L) ∧ Keeps [g] w wr)) (fun i _ => 25 - (intOf i).toNat)
      case atStart => exact ⟨0, by omega, rfl, INV.out⟩
      case round =>
        clear INV
        obtain ⟨j, hj, rfl, hinv⟩ := hrel
        have HT : Hid (Wf 25 (thetaTo (cols L) L j)) := Wf.thetaTo HC.out HL.out j
        have hc5 : (cols L).length = 5 := HC.out.1
        have HC5 := Lib.hid hc5
        clear hc5
        by_cases hlt : j < 25
        · have hi : (j : Int) < 25 := by omega
          have q1 : ∀ x : World, St x g T rest (thetaTo (cols L) L j) → x.cell? ⟨g, j, none⟩ = some (.int .u64 (ln (thetaTo (cols L) L j) j : Int)) := fun x hx => hx.cell j (by rw [HT.out.1]; exact hlt)
          obtain ⟨k4, hk4⟩ : ∃ k, k = (j + 4) % 5 := ⟨_, rfl⟩
          obtain ⟨k1, hk1⟩ : ∃ k, k = (j + 1) % 5 := ⟨_, rfl⟩
          have t4 : (IntKind.i64.wrap ((j : Int) + 4)).tmod 5 = (k4 : Int) := wrap_mod5 j 4 k4 (by omega) hk4
          have t1 : (IntKind.i64.wrap ((j : Int) + 1)).tmod 5 = (k1 : Int) := wrap_mod5 j 1 k1 (by omega) hk1
          have b4 : (k4 : Int) < 5 := by omega
          have b1 : (k1 : Int) < 5 := by omega
          have q2 : ∀ x : World, St x w.heap.size 54 [] (cols L) → x.cell? ⟨w.heap.size, k4, none⟩ = some (.int .u64 (ln (cols L) k4 : Int)) := fun x hx => hx.cell _ (by rw [HC5.out]; omega)
          have q3 : ∀ x : World, St x w.heap.size 54 [] (cols L) → x.cell? ⟨w.heap.size, k1, none⟩ = some (.int .u64 (ln (cols L) k1 : Int)) := fun x hx => hx.cell _ (by rw [HC5.out]; omega)
          have hr := rotl_lt (ln (cols L) k1) 1 (HC.out.2 _)
          have hx1 := u64_xor_nat (ln (cols L) k4) (rotl (ln (cols L) k1) 1) (HC.out.2 _) hr
          have hx2 := u64_xor_nat (ln (thetaTo (cols L) L j) j) (ln (cols L) k4 ^^^ rotl (ln (cols L) k1) 1) (HT.out.2 _) (xor_lt _ _ (HC.out.2 _) hr)
          have HR := Lib.hid (HC.out.2 k1)
          have HK := Lib.hid (And.intro hk4 hk1)
          clear hr hk4 hk1
          go_wp2_with fail
          refine seqz_start (by kernel_rfl) (fun x => St x g T rest (thetaTo (cols L) L j) ∧ St x w.heap.size 54 [] (cols L)) 20 21 [0, 1, 2, 3, 4, 5, 6, 7, 8, 9, 10, 11, 12, 13, 14, 15, 16, 17, 18, 19, 20] rfl (⟨hinv.out.1, hinv.out.2.1⟩) (fun hS => ?_)
          have HI := Lib.hid (show St wr.drew g T rest (thetaTo (cols L) L j) ∧ St wr.drew w.heap.size 54 [] (cols L) ∧ Keeps [g] w wr.drew from ⟨hinv.out.1, hinv.out.2.1, hinv.out.2.2.drew⟩)
          clear hinv
          generalize wr.drew = V at HI hS ⊢
          refine seqz_take (v := ?_) rfl (by kernel_rfl) (by kernel_rfl) (by kernel_rfl) (by kernel_rfl) (by kernel_rfl) (by decide) (Or.inl ⟨by rfl, fun w' hSw => ?_⟩) (by assumption) ?_
          rotate_left
          · go_simp
            with_reducible rfl
          simp only [Act.put, List.setIfInBounds_toArray, List.set_cons_zero, List.set_cons_succ]
          refine seqz_take (v := ?_) rfl (by kernel_rfl) (by kernel_rfl) (by kernel_rfl) (by kernel_rfl) (by kernel_rfl) (by decide) (Or.inl ⟨by rfl, fun w' hSw => ?_⟩) (by assumption) ?_
          rotate_left
          · go_simp
            with_reducible rfl
          simp only [Act.put, List.setIfInBounds_toArray, List.set_cons_zero, List.set_cons_succ]
          refine seqz_take (v := ?_) rfl (by kernel_rfl) (by kernel_rfl) (by kernel_rfl) (by kernel_rfl) (by kernel_rfl) (by decide) (Or.inl ⟨by rfl, fun w' hSw => ?_⟩) (by assumption) ?_
          rotate_left
          · go_simp
            with_reducible rfl
          simp only [Act.put, List.setIfInBounds_toArray, List.set_cons_zero, List.set_cons_succ]
          refine seqz_take (v := ?_) rfl (by kernel_rfl) (by kernel_rfl) (by kernel_rfl) (by kernel_rfl) (by kernel_rfl) (by decide) (Or.inl ⟨by rfl, fun w' hSw => ?_⟩) (by assumption) ?_
          rotate_left
          · go_simp
            with_reducible rfl
          simp only [Act.put, List.setIfInBounds_toArray, List.set_cons_zero, List.set_cons_succ]
          refine seqz_take (v := ?_) rfl (by kernel_rfl) (by kernel_rfl) (by kernel_rfl) (by kernel_rfl) (by kernel_rfl) (by decide) (Or.inl ⟨by rfl, fun w' hSw => ?_⟩) (by assumption) ?_
          rotate_left
          · go_simp
            with_reducible rfl
          simp only [Act.put, List.setIfInBounds_toArray, List.set_cons_zero, List.set_cons_succ]
          refine seqz_take (v := ?_) rfl (by kernel_rfl) (by kernel_rfl) (by kernel_rfl) (by kernel_rfl) (by kernel_rfl) (by decide) (Or.inl ⟨by rfl, fun w' hSw => ?_⟩) (by assumption) ?_
          rotate_left
          · go_simp
            with_reducible rfl
          simp only [Act.put, List.setIfInBounds_toArray, List.set_cons_zero, List.set_cons_succ]
          refine seqz_take (v := ?_) rfl (by kernel_rfl) (by kernel_rfl) (by kernel_rfl) (by kernel_rfl) (by kernel_rfl) (by decide) (Or.inl ⟨by rfl, fun w' hSw => ?_⟩) (by assumption) ?_
          rotate_left
          · go_simp
            with_reducible rfl
          simp only [Act.put, List.setIfInBounds_toArray, List.set_cons_zero, List.set_cons_succ]
          refine seqz_take (v := ?_) rfl (by kernel_rfl) (by kernel_rfl) (by kernel_rfl) (by kernel_rfl) (by kernel_rfl) (by decide) (Or.inl ⟨by rfl, fun w' hSw => ?_⟩) (by assumption) ?_
          rotate_left
          · go_simp
            with_reducible rfl
          simp only [Act.put, List.setIfInBounds_toArray, List.set_cons_zero, List.set_cons_succ]
          refine seqz_take (v := ?_) rfl (by kernel_rfl) (by kernel_rfl) (by kernel_rfl) (by kernel_rfl) (by kernel_rfl) (by decide) (Or.inl ⟨by rfl, fun w' hSw => ?_⟩) (by assumption) ?_
          rotate_left
          · go_simp
            with_reducible rfl
          simp only [Act.put, List.setIfInBounds_toArray, List.set_cons_zero, List.set_cons_succ]
          refine seqz_take (v := ?_) rfl (by kernel_rfl) (by kernel_rfl) (by kernel_rfl) (by kernel_rfl) (by kernel_rfl) (by decide) (Or.inl ⟨by rfl, fun w' hSw => ?_⟩) (by assumption) ?_
          rotate_left
          · go_simp
            with_reducible rfl
          simp only [Act.put, List.setIfInBounds_toArray, List.set_cons_zero, List.set_cons_succ]
          refine seqz_take (v := ?_) rfl (by kernel_rfl) (by kernel_rfl) (by kernel_rfl) (by kernel_rfl) (by kernel_rfl) (by decide) (Or.inl ⟨by rfl, fun w' hSw => ?_⟩) (by assumption) ?_
          rotate_left
          · go_simp
            with_reducible rfl
          simp only [Act.put, List.setIfInBounds_toArray, List.set_cons_zero, List.set_cons_succ]
          refine seqz_take (v := ?_) rfl (by kernel_rfl) (by kernel_rfl) (by kernel_rfl) (by kernel_rfl) (by kernel_rfl) (by decide) (Or.inl ⟨by rfl, fun w' hSw => ?_⟩) (by assumption) ?_
          rotate_left
          · go_simp
            with_reducible rfl
          simp only [Act.put, List.setIfInBounds_toArray, List.set_cons_zero, List.set_cons_succ]
          refine seqz_take (v := ?_) rfl (by kernel_rfl) (by kernel_rfl) (by kernel_rfl) (by kernel_rfl) (by kernel_rfl) (by decide) (Or.inl ⟨by rfl, fun w' hSw => ?_⟩) (by assumption) ?_
          rotate_left
          · go_simp
            with_reducible rfl
          simp only [Act.put, List.setIfInBounds_toArray, List.set_cons_zero, List.set_cons_succ]
          refine seqz_take (v := ?_) rfl (by kernel_rfl) (by kernel_rfl) (by kernel_rfl) (by kernel_rfl) (by kernel_rfl) (by decide) (Or.inl ⟨by rfl, fun w' hSw => ?_⟩) (by assumption) ?_
          rotate_left
          · go_simp
            with_reducible rfl
          simp only [Act.put, List.setIfInBounds_toArray, List.set_cons_zero, List.set_cons_succ]
          refine seqz_take (v := ?_) rfl (by kernel_rfl) (by kernel_rfl) (by kernel_rfl) (by kernel_rfl) (by kernel_rfl) (by decide) (Or.inl ⟨by rfl, fun w' hSw => ?_⟩) (by assumption) ?_
          rotate_left
          · go_simp
            with_reducible rfl
          simp only [Act.put, List.setIfInBounds_toArray, List.set_cons_zero, List.set_cons_succ]
          iterate 3 (refine seq_later ?_; simp only [List.cons_append, List.nil_append])
          refine seqz_take (v := ?_) rfl (by kernel_rfl) (by kernel_rfl) (by kernel_rfl) (by kernel_rfl) (by kernel_rfl) (by decide) (Or.inl ⟨by rfl, fun w' hSw => ?_⟩) (by assumption) ?_
          rotate_left
          · go_simp
            with_reducible rfl
          simp only [Act.put, List.setIfInBounds_toArray, List.set_cons_zero, List.set_cons_succ]
          iterate 2 (refine seq_later ?_; simp only [List.cons_append, List.nil_append])
          refine seqz_do rfl (by kernel_rfl) (by rfl) (fun K hK => ?_)
          go_simp
          refine (rot_any _ 1 HR.out (by decide) V).mono ?_
          rintro e w2 ⟨rfl, rfl⟩
          refine hK.out (fun x => St x g T rest (thetaTo (cols L) L j) ∧ St x w.heap.size 54 [] (cols L)) _ _ (fun x h => h) ⟨HI.out.1, HI.out.2.1⟩ (fun hS => ?_)
          refine seqz_take (v := ?_) rfl (by kernel_rfl) (by kernel_rfl) (by kernel_rfl) (by kernel_rfl) (by kernel_rfl) (by decide) (Or.inl ⟨by rfl, fun w' hSw => ?_⟩) (by assumption) ?_
          rotate_left
          · go_simp
            with_reducible rfl
          simp only [Act.put, List.setIfInBounds_toArray, List.set_cons_zero, List.set_cons_succ]
          refine seqz_take (v := ?_) rfl (by kernel_rfl) (by kernel_rfl) (by kernel_rfl) (by kernel_rfl) (by kernel_rfl) (by decide) (Or.inl ⟨by rfl, fun w' hSw => ?_⟩) (by assumption) ?_
          rotate_left
          · go_simp
            with_reducible rfl
          simp only [Act.put, List.setIfInBounds_toArray, List.set_cons_zero, List.set_cons_succ]
          refine seqz_take (v := ?_) rfl (by kernel_rfl) (by kernel_rfl) (by kernel_rfl) (by kernel_rfl) (by kernel_rfl) (by decide) (Or.inl ⟨by rfl, fun w' hSw => ?_⟩) (by assumption) ?_
          rotate_left
          · go_simp
            with_reducible rfl
          simp only [Act.put, List.setIfInBounds_toArray, List.set_cons_zero, List.set_cons_succ]
          refine seqz_last rfl (by kernel_rfl) (by rfl) (by kernel_rfl) ?_
          all_goals skip
          have q1 := HI.out.1.cell j (by rw [HT.out.1]; exact hlt)
          have f1 := HI.out.1.frozen j
          have HSET := Lib.hid (HI.out.1.set j (ln (thetaTo (cols L) L j) j ^^^ (ln (cols L) k4 ^^^ rotl (ln (cols L) k1) 1)) (by rw [HT.out.1]; exact hlt))
          clear hS q2 q3
          go_wp2_with fail
          go_roundw
          case rel =>
            refine ⟨j + 1, by omega, by go_num, ?_, HI.out.2.1.keeps (Keeps.at_ _) (by simp; omega), HI.out.2.2.trans (Keeps.at_ _) (fun t ht => .inl ht)⟩
            rw [thetaTo_succ]
            unfold thetaStep
            rw [← HK.out.1, ← HK.out.2]
            exact HSET.out
          case measure => simp [intOf]; omega
        · have hj25 : j = 25 := by omega
          have HJ := Lib.hid hj25
          have hi : ¬ (j : Int) < 25 := by omega
          clear hj25 hj hlt
          go_wp2_with fail
          go_end0
          have := hinv.out
          rw [HJ.out] at this
          exact ⟨rfl, this.1, this.2.2⟩
end Go.Proofs.YtomleanoofoejaaDoor
