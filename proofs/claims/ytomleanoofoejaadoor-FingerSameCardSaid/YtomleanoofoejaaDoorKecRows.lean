/- The rows' step: a contract. -/
import Derived.Test.YtomleanoofoejaaDoorKecWalk
namespace Go.Proofs.YtomleanoofoejaaDoor
open Go.RowKit

theorem info_u64 : (Tryd.prog.info? 53).map (·.size) = some 1 := by kernel_rfl
theorem info_row : (Tryd.prog.info? 54).map (·.size) = some 5 := by kernel_rfl
theorem St.range {w : World} {g : Nat} {T : TypeId} {rest : List Value} {L : List Nat} (h : St w g T rest L) (y n : Nat) (hy : y + n ≤ L.length) : w.rangeAt g y (encN ((L.drop y).take n)) := by
  intro j v hv
  have hj : j < n := by
    have := (List.getElem?_eq_some_iff.1 hv).1
    simp at this; omega
  rw [h.cell (y + j) (by omega)]
  rw [encN_get _ j (by simp; omega), ln_part, if_pos hj] at hv
  exact hv

set_option maxHeartbeats 8000000 in
set_option maxRecDepth 100000 in
theorem rows_any (g : Nat) (T : TypeId) (rest : List Value) (L : List Nat) (w : World) (h : St w g T rest L) (hL : Wf 25 L) :
    Calls Tryd.prog 42 #[.pointer (some ⟨g, 0, none⟩)] w fun e w' => e = .returned (.tuple #[]) ∧ St w' g T rest (chi L) ∧ Keeps [g] w w' := by
  have INV := Lib.hid (show St w g T rest (chiTo L 0) ∧ Keeps [g] w w from ⟨h, Keeps.refl [g] w⟩)
  have HL := Lib.hid hL
  have hgl := h.lt
  clear h hL
  go_enter Tryd.func42, Tryd.ntmps42
  go_wp2_with fail
  go_loopw [2] (fun i wr => ∃ k : Nat, k ≤ 5 ∧ ∃ y, Hid (y = 5 * k) ∧ i = .int .i64 (y : Nat) ∧ Hid (St wr g T rest (chiTo L k) ∧ Keeps [g] w wr)) (fun i _ => 25 - (intOf i).toNat)
  case atStart => exact ⟨0, by omega, 0, rfl, rfl, INV.out⟩
  case round =>
    clear INV
    obtain ⟨k, hk, y, hy, rfl, hinv⟩ := hrel
    obtain ⟨wo, rfl⟩ : ∃ wo : World, wo = wr := ⟨_, rfl⟩
    have HM := Lib.hid (show Wf 25 (chiTo L k) from HL.out.chiTo k hk)
    by_cases hlt : k < 5
    · have hy20 : (y : Int) < 25 := by have := hy.out; omega
      have hyn : y + 5 ≤ 25 := by have := hy.out; omega
      have hne : ¬ (25 = y) := by omega
      obtain ⟨M, hM⟩ : ∃ M, M = chiTo L k := ⟨_, rfl⟩
      rw [← hM] at hinv HM
      have HMM := Lib.hid hM
      have HRG := Lib.hid (hinv.out.1.range y 5 (by rw [HM.out.1]; omega))
      have HIR := Lib.hid (show (Tryd.prog.info? 54).map (·.size) = some (encN ((M.drop y).take 5)).length by rw [length_encN, (HM.out.part y 5 hyn).1]; exact info_row)
      obtain ⟨row, hrow⟩ : ∃ row, row = (M.drop y).take 5 := ⟨_, rfl⟩
      rw [← hrow] at HRG HIR
      have HROW := Lib.hid hrow
      have HR5 := Lib.hid (show Wf 5 row by rw [hrow]; exact HM.out.part y 5 hyn)
      have H5 := Lib.hid (show (encN (List.replicate 5 0) ++ []).length = (encN row).length by rw [length_encN, HR5.out.1]; rfl)
      have har : ∀ W : World, (Instr.arrayAt 54 (.slice (some ⟨g, y, none⟩) 5 (25 - y))).run Tryd.prog W = .ok (.pointer (some ⟨g, y, none⟩)) W := fun W => run_arrayAt W Tryd.underlying54 _ _ _ (by decide)
      clear hM hlt hk hrow
      go_wp2_with (first
        | (refine wpList_secArr rfl 71 (.tmp 10) (some (.tmp 11)) (some (.tmp 13)) none rfl Tryd.underlying71 info_u64 ⟨g, 0, none⟩ y (y + 5) 25 rfl (Bnd.at_ rfl) (Bnd.at_ rfl) Bnd.no (by omega) (by omega) (by omega) (by simp) ?_; rw [secA_some (show y < 25 by omega), Nat.zero_add, Nat.mul_one, show y + 5 - y = 5 by omega])
        | (refine wpList_load_mid rfl 54 (.tmp 15) rfl g y rfl (encN row) _ HRG.out Tryd.underlying54 rfl HIR.out ?_)
        | (rw [zero5]; refine wpList_store_rowK rfl 54 (.tmp 3) (.tmp 16) rfl wo.heap.size (encN row) (encN (List.replicate 5 0) ++ []) 54 rfl rfl (heap_alloc_new _ _) H5.out HIR.out (encN_one _) ?_; intro w6 h6 hk6; have H6 := Lib.hid h6.out; have HK6 := Lib.hid (((Keeps.refl [] wo).alloc _).trans hk6 (fun t ht => .inr (by simp at ht; omega))); clear h6 hk6))
      have INV2 := Lib.hid (show St w6 g T rest (rowTo M y 0) ∧ St w6 wo.heap.size 54 [] row ∧ Keeps [g] w w6 from ⟨hinv.out.1.keeps HK6.out (by simp), by show _ = _; rw [List.append_nil]; exact H6.out, hinv.out.2.trans HK6.out (by simp)⟩)
      have hgb : g < wo.heap.size := hinv.out.1.lt
      have hwb : w.heap.size ≤ wo.heap.size := hinv.out.2.size
      clear har hinv
      go_wp2_with fail
      go_loopw [17] (fun i wq => ∃ x : Nat, x ≤ 5 ∧ i = .int .i64 (x : Nat) ∧ Hid (St wq g T rest (rowTo M y x) ∧ St wq wo.heap.size 54 [] row ∧ Keeps [g] w wq)) (fun i _ => 5 - (intOf i).toNat)
      case atStart => exact ⟨0, by omega, rfl, INV2.out⟩
      case round =>
        clear INV2
        obtain ⟨x, hx5, rfl, hinv⟩ := hrel
        have HT := Lib.hid (HM.out.rowTo y x hyn)
        by_cases hlt : x < 5
        · have hi : (x : Int) < 5 := by omega
          obtain ⟨k2, hk2⟩ : ∃ k, k = (x + 2) % 5 := ⟨_, rfl⟩
          obtain ⟨k1, hk1⟩ : ∃ k, k = (x + 1) % 5 := ⟨_, rfl⟩
          obtain ⟨at', hat⟩ : ∃ a, a = y + x := ⟨_, rfl⟩
          have t2 : (IntKind.i64.wrap ((x : Int) + 2)).tmod 5 = (k2 : Int) := wrap_mod5 x 2 k2 (by omega) hk2
          have t1 : (IntKind.i64.wrap ((x : Int) + 1)).tmod 5 = (k1 : Int) := wrap_mod5 x 1 k1 (by omega) hk1
          have ta : IntKind.i64.wrap ((y : Int) + (x : Int)) = (at' : Int) := by rw [IntKind.wrap_i64]; omega
          have b2 : (k2 : Int) < 5 := by omega
          have b1 : (k1 : Int) < 5 := by omega
          have ba : (at' : Int) < 25 := by omega
          have q0 : ∀ z : World, St z wo.heap.size 54 [] row → z.cell? ⟨wo.heap.size, x, none⟩ = some (.int .u64 (ln row x : Int)) := fun z hz => hz.cell _ (by rw [HR5.out.1]; omega)
          have q1 : ∀ z : World, St z wo.heap.size 54 [] row → z.cell? ⟨wo.heap.size, k1, none⟩ = some (.int .u64 (ln row k1 : Int)) := fun z hz => hz.cell _ (by rw [HR5.out.1]; omega)
          have q2 : ∀ z : World, St z wo.heap.size 54 [] row → z.cell? ⟨wo.heap.size, k2, none⟩ = some (.int .u64 (ln row k2 : Int)) := fun z hz => hz.cell _ (by rw [HR5.out.1]; omega)
          have hx1 : bits .andNot .u64 (ln row k2 : Int) (ln row k1 : Int) = ((andn (ln row k2) (ln row k1) : Nat) : Int) := u64_andNot_nat (ln row k2) (ln row k1) (HR5.out.2 _) (HR5.out.2 _)
          have hx2 := u64_xor_nat (ln row x) (andn (ln row k2) (ln row k1)) (HR5.out.2 _) (andn_lt _ _ (HR5.out.2 _))
          have HATL := Lib.hid (show at' < (rowTo M y x).length by rw [HT.out.1]; omega)
          have HKS := Lib.hid (And.intro hk2 (And.intro hk1 hat))
          clear hk2 hk1 hat hlt hx5 hyn hne
          go_wp2_with fail
          refine seqz_start (by kernel_rfl) (fun z => St z wo.heap.size 54 [] row) 21 22 [0, 1, 2, 3, 4, 5, 6, 7, 8, 9, 10, 11, 12, 13, 14, 15, 16, 17, 18, 19, 20, 21] rfl (hinv.out.2.1) (fun hS => ?_)
          refine seqz_take (v := ?_) rfl (by kernel_rfl) (by kernel_rfl) (by kernel_rfl) (by kernel_rfl) (by kernel_rfl) (by decide) (Or.inl ⟨by rfl, fun w' hSw => ?_⟩) (by assumption) ?_
          rotate_left
          · go_simp
            with_reducible rfl
          simp only [Act.put, List.setIfInBounds_toArray, List.set_cons_zero, List.set_cons_succ]
          refine seqz_take (v := ?_) rfl (by kernel_rfl) (by kernel_rfl) (by kernel_rfl) (by kernel_rfl) (by kernel_rfl) (by decide) (Or.inl ⟨by rfl, fun w' hSw => ?_⟩) (by assumption) ?_
          rotate_left
          · go_simp
            with_reducible rfl
          simp only [Act.put, List.setIfInBounds_toArray, List.set_cons_zero, List.set_cons_succ]
          refine seqz_take (v := ?_) rfl (by kernel_rfl) (by kernel_rfl) (by kernel_rfl) (by kernel_rfl) (by kernel_rfl) (by decide) (Or.inl ⟨by rfl, fun w' hSw => ?_⟩) (by assumption) ?_
          rotate_left
          · go_simp
            with_reducible rfl
          simp only [Act.put, List.setIfInBounds_toArray, List.set_cons_zero, List.set_cons_succ]
          refine seqz_take (v := ?_) rfl (by kernel_rfl) (by kernel_rfl) (by kernel_rfl) (by kernel_rfl) (by kernel_rfl) (by decide) (Or.inl ⟨by rfl, fun w' hSw => ?_⟩) (by assumption) ?_
          rotate_left
          · go_simp
            with_reducible rfl
          simp only [Act.put, List.setIfInBounds_toArray, List.set_cons_zero, List.set_cons_succ]
          refine seqz_take (v := ?_) rfl (by kernel_rfl) (by kernel_rfl) (by kernel_rfl) (by kernel_rfl) (by kernel_rfl) (by decide) (Or.inl ⟨by rfl, fun w' hSw => ?_⟩) (by assumption) ?_
          rotate_left
          · go_simp
            with_reducible rfl
          simp only [Act.put, List.setIfInBounds_toArray, List.set_cons_zero, List.set_cons_succ]
          refine seqz_take (v := ?_) rfl (by kernel_rfl) (by kernel_rfl) (by kernel_rfl) (by kernel_rfl) (by kernel_rfl) (by decide) (Or.inl ⟨by rfl, fun w' hSw => ?_⟩) (by assumption) ?_
          rotate_left
          · go_simp
            with_reducible rfl
          simp only [Act.put, List.setIfInBounds_toArray, List.set_cons_zero, List.set_cons_succ]
          refine seqz_take (v := ?_) rfl (by kernel_rfl) (by kernel_rfl) (by kernel_rfl) (by kernel_rfl) (by kernel_rfl) (by decide) (Or.inl ⟨by rfl, fun w' hSw => ?_⟩) (by assumption) ?_
          rotate_left
          · go_simp
            with_reducible rfl
          simp only [Act.put, List.setIfInBounds_toArray, List.set_cons_zero, List.set_cons_succ]
          refine seqz_take (v := ?_) rfl (by kernel_rfl) (by kernel_rfl) (by kernel_rfl) (by kernel_rfl) (by kernel_rfl) (by decide) (Or.inl ⟨by rfl, fun w' hSw => ?_⟩) (by assumption) ?_
          rotate_left
          · go_simp
            with_reducible rfl
          simp only [Act.put, List.setIfInBounds_toArray, List.set_cons_zero, List.set_cons_succ]
          refine seqz_take (v := ?_) rfl (by kernel_rfl) (by kernel_rfl) (by kernel_rfl) (by kernel_rfl) (by kernel_rfl) (by decide) (Or.inl ⟨by rfl, fun w' hSw => ?_⟩) (by assumption) ?_
          rotate_left
          · go_simp
            with_reducible rfl
          simp only [Act.put, List.setIfInBounds_toArray, List.set_cons_zero, List.set_cons_succ]
          refine seqz_take (v := ?_) rfl (by kernel_rfl) (by kernel_rfl) (by kernel_rfl) (by kernel_rfl) (by kernel_rfl) (by decide) (Or.inl ⟨by rfl, fun w' hSw => ?_⟩) (by assumption) ?_
          rotate_left
          · go_simp
            with_reducible rfl
          simp only [Act.put, List.setIfInBounds_toArray, List.set_cons_zero, List.set_cons_succ]
          refine seqz_take (v := ?_) rfl (by kernel_rfl) (by kernel_rfl) (by kernel_rfl) (by kernel_rfl) (by kernel_rfl) (by decide) (Or.inl ⟨by rfl, fun w' hSw => ?_⟩) (by assumption) ?_
          rotate_left
          · go_simp
            with_reducible rfl
          simp only [Act.put, List.setIfInBounds_toArray, List.set_cons_zero, List.set_cons_succ]
          refine seqz_take (v := ?_) rfl (by kernel_rfl) (by kernel_rfl) (by kernel_rfl) (by kernel_rfl) (by kernel_rfl) (by decide) (Or.inl ⟨by rfl, fun w' hSw => ?_⟩) (by assumption) ?_
          rotate_left
          · go_simp
            with_reducible rfl
          simp only [Act.put, List.setIfInBounds_toArray, List.set_cons_zero, List.set_cons_succ]
          refine seqz_take (v := ?_) rfl (by kernel_rfl) (by kernel_rfl) (by kernel_rfl) (by kernel_rfl) (by kernel_rfl) (by decide) (Or.inl ⟨by rfl, fun w' hSw => ?_⟩) (by assumption) ?_
          rotate_left
          · go_simp
            with_reducible rfl
          simp only [Act.put, List.setIfInBounds_toArray, List.set_cons_zero, List.set_cons_succ]
          refine seqz_take (v := ?_) rfl (by kernel_rfl) (by kernel_rfl) (by kernel_rfl) (by kernel_rfl) (by kernel_rfl) (by decide) (Or.inl ⟨by rfl, fun w' hSw => ?_⟩) (by assumption) ?_
          rotate_left
          · go_simp
            with_reducible rfl
          simp only [Act.put, List.setIfInBounds_toArray, List.set_cons_zero, List.set_cons_succ]
          refine seqz_take (v := ?_) rfl (by kernel_rfl) (by kernel_rfl) (by kernel_rfl) (by kernel_rfl) (by kernel_rfl) (by decide) (Or.inl ⟨by rfl, fun w' hSw => ?_⟩) (by assumption) ?_
          rotate_left
          · go_simp
            with_reducible rfl
          simp only [Act.put, List.setIfInBounds_toArray, List.set_cons_zero, List.set_cons_succ]
          refine seqz_take (v := ?_) rfl (by kernel_rfl) (by kernel_rfl) (by kernel_rfl) (by kernel_rfl) (by kernel_rfl) (by decide) (Or.inl ⟨by rfl, fun w' hSw => ?_⟩) (by assumption) ?_
          rotate_left
          · go_simp
            with_reducible rfl
          simp only [Act.put, List.setIfInBounds_toArray, List.set_cons_zero, List.set_cons_succ]
          refine seqz_take (v := ?_) rfl (by kernel_rfl) (by kernel_rfl) (by kernel_rfl) (by kernel_rfl) (by kernel_rfl) (by decide) (Or.inl ⟨by rfl, fun w' hSw => ?_⟩) (by assumption) ?_
          rotate_left
          · go_simp
            with_reducible rfl
          simp only [Act.put, List.setIfInBounds_toArray, List.set_cons_zero, List.set_cons_succ]
          refine seqz_take (v := ?_) rfl (by kernel_rfl) (by kernel_rfl) (by kernel_rfl) (by kernel_rfl) (by kernel_rfl) (by decide) (Or.inl ⟨by rfl, fun w' hSw => ?_⟩) (by assumption) ?_
          rotate_left
          · go_simp
            with_reducible rfl
          simp only [Act.put, List.setIfInBounds_toArray, List.set_cons_zero, List.set_cons_succ]
          refine seqz_take (v := ?_) rfl (by kernel_rfl) (by kernel_rfl) (by kernel_rfl) (by kernel_rfl) (by kernel_rfl) (by decide) (Or.inl ⟨by rfl, fun w' hSw => ?_⟩) (by assumption) ?_
          rotate_left
          · go_simp
            with_reducible rfl
          simp only [Act.put, List.setIfInBounds_toArray, List.set_cons_zero, List.set_cons_succ]
          refine seqz_take (v := ?_) rfl (by kernel_rfl) (by kernel_rfl) (by kernel_rfl) (by kernel_rfl) (by kernel_rfl) (by decide) (Or.inl ⟨by rfl, fun w' hSw => ?_⟩) (by assumption) ?_
          rotate_left
          · go_simp
            with_reducible rfl
          simp only [Act.put, List.setIfInBounds_toArray, List.set_cons_zero, List.set_cons_succ]
          refine seqz_take (v := ?_) rfl (by kernel_rfl) (by kernel_rfl) (by kernel_rfl) (by kernel_rfl) (by kernel_rfl) (by decide) (Or.inl ⟨by rfl, fun w' hSw => ?_⟩) (by assumption) ?_
          rotate_left
          · go_simp
            with_reducible rfl
          simp only [Act.put, List.setIfInBounds_toArray, List.set_cons_zero, List.set_cons_succ]
          refine seqz_last rfl (by kernel_rfl) (by rfl) (by kernel_rfl) ?_
          all_goals skip
          have HI := Lib.hid (show St wr.drew g T rest (rowTo M y x) ∧ St wr.drew wo.heap.size 54 [] row ∧ Keeps [g] w wr.drew from ⟨hinv.out.1, hinv.out.2.1, hinv.out.2.2.drew⟩)
          clear hinv hS q0 q1 q2 t1 t2 ta
          generalize wr.drew = V at HI ⊢
          have qa := HI.out.1.cell at' HATL.out
          have fa := HI.out.1.frozen at'
          have HSET := Lib.hid (HI.out.1.set at' (ln row x ^^^ andn (ln row k2) (ln row k1)) HATL.out)
          go_wp2_with fail
          go_roundw
          case rel =>
            refine ⟨x + 1, by omega, by go_num, ?_, HI.out.2.1.keeps (Keeps.at_ _) (by simp; omega), HI.out.2.2.trans (Keeps.at_ _) (fun t ht => .inl ht)⟩
            rw [rowTo_succ]
            unfold rowStep
            rw [← HROW.out, ← HKS.out.1, ← HKS.out.2.1, ← HKS.out.2.2]
            exact HSET.out
          case measure => simp [intOf]; omega
        · have HX5 := Lib.hid (show x = 5 by omega)
          have hi : ¬ (x : Int) < 5 := by omega
          have HNX : Hid (St wr g T rest (chiTo L (k + 1)) ∧ Keeps [g] w wr) := by
            have h1 := hinv.out.1
            rw [HX5.out, HMM.out, hy.out] at h1
            exact ⟨by rw [chiTo_succ]; exact h1, hinv.out.2.2⟩
          clear hlt hx5 hinv hne
          go_wp2_with fail
          go_roundw
          case rel => exact ⟨k + 1, by have := hy.out; omega, y + 5, by show _ = _; rw [hy.out]; omega, by go_num, HNX.out⟩
          case measure => simp [intOf]; omega
    · have hi : ¬ (y : Int) < 25 := by have := hy.out; omega
      go_wp2_with fail
      go_end0
      have hk5 : k = 5 := by omega
      have := hinv.out
      rw [hk5] at this
      exact ⟨rfl, this.1, this.2⟩
end Go.Proofs.YtomleanoofoejaaDoor
