/- The law on the sameness of fingerprints: called with any two blocks it answers true. -/
import Derived.Test.YtomleanoofoejaaDoorFingSure
import Derived.Test.YtomleanoofoejaaDoorFingLess
import Derived.Test.YtomleanoofoejaaDoorRw
import Derived.Test.YtomleanoofoejaaDoorKinds
namespace Go.Proofs.YtomleanoofoejaaDoor
open Go.RowKit
attribute [local irreducible] turnK outK absAll hexAll endK sqzTo hmore fpK

theorem some_blk : (Tryd.prog.info? 5).isSome = true := by kernel_rfl
theorem guard_blk : Tryd.prog.eqGuardType Tryd.prog.depth 23 = false := by kernel_rfl
theorem eq_block (w : World) (x y : List UInt8) (hx : x.length = 64) (hy : y.length = 64) : (binOp .eql 23 (.agg (encB x).toArray) (.agg (encB y).toArray)).run Tryd.prog w = .ok (.bool (x == y)) w :=
  run_eql_arrB w Tryd.underlying23 Tryd.underlying5 some_blk cells_u8 x y hx hy
/-- 'x != y' in a region that draws, where its run is known. -/
theorem yieldsIf_neqv {P : Program} {ops : Array Oper} {S : World → Prop} {op : Oper} {a : Act} (hw : Region.wanted op (yielded ops a.tmps) = true) (t : TypeId) (x y : Operand) (ho : op.op = .binOp .neq t x y t)
    (v u r : Value) (hx : a.eval x = v) (hy : a.eval y = u) (hr : ∀ w, (binOp .neq t v u).run P w = .ok r w) (hg : ∀ y1 y2 w, (eqGuard .neq t y1 y2 v u).run P w = .ok () w) : YieldsIf P ops S op r a :=
  .inl ⟨hw, fun w _ => by
    unfold execOp
    simp only [ho, hx, hy, Sem.run_bind, hr, hg, Result.andThen_ok, Sem.run_pure]⟩
theorem ferr_small (k : Nat) (h : k < 4) : errV (ferr (k : Int)) = .nilIface := by
  have : k = 0 ∨ k = 1 ∨ k = 2 ∨ k = 3 := by omega
  rcases this with rfl | rfl | rfl | rfl <;> rfl

set_option maxRecDepth 100000 in
set_option maxHeartbeats 16000000 in
theorem same_any (a b : List UInt8) (w : World) (hc : Con w) (ht : HT w) (ha : a.length = 64) (hb : b.length = 64) :
    Calls Tryd.prog 3 #[.agg (encB a).toArray, .agg (encB b).toArray] w fun e w' => e = .returned (.bool true) ∧ Keeps [] w w' := by
  have HA := Lib.hid ha
  have HB := Lib.hid hb
  have HC := Lib.hid (And.intro hc ht)
  have HZ := Lib.hid (show (#[.int .u8 0, .int .u8 0, .int .u8 0, .int .u8 0, .int .u8 0, .int .u8 0, .int .u8 0, .int .u8 0, .int .u8 0, .int .u8 0, .int .u8 0, .int .u8 0, .int .u8 0, .int .u8 0, .int .u8 0, .int .u8 0, .int .u8 0, .int .u8 0, .int .u8 0, .int .u8 0, .int .u8 0, .int .u8 0, .int .u8 0, .int .u8 0, .int .u8 0, .int .u8 0, .int .u8 0, .int .u8 0, .int .u8 0, .int .u8 0, .int .u8 0, .int .u8 0] : Array Value) = (encB z32).toArray from zero32k)
  have HIA := Lib.hid (show (Tryd.prog.info? 23).map (·.size) = some (encB a).toArray.size by rw [List.size_toArray, length_encB, ha]; exact infoBlkF)
  have HIB := Lib.hid (show (Tryd.prog.info? 23).map (·.size) = some (encB b).toArray.size by rw [List.size_toArray, length_encB, hb]; exact infoBlkF)
  have HEB := Lib.hid (fun v => eq_block v a b ha hb)
  obtain ⟨ra, hra⟩ : ∃ v, v = encB a := ⟨_, rfl⟩
  obtain ⟨rb, hrb⟩ : ∃ v, v = encB b := ⟨_, rfl⟩
  rw [← hra] at HIA ⊢
  rw [← hrb] at HIB ⊢
  rw [← hra, ← hrb] at HEB
  have HAS := Lib.hid hra
  have HBS := Lib.hid hrb
  clear hc ht ha hb hra hrb
  go_enter Tryd.func3, Tryd.ntmps3
  go_upto_region 1 with fail
  obtain ⟨W, hW⟩ : ∃ W, W = (w.alloc (.cells ra.toArray 23)).alloc (.cells rb.toArray 23) := ⟨_, rfl⟩
  rw [← hW]
  have INV := Lib.hid (show Rw [(w.heap.size, 23, ra), (w.heap.size + 1, 23, rb)] W ∧ Keeps [] w W from by
    rw [hW]
    refine ⟨(((Rw.nil w).alloc ra 23).alloc rb 23).sub (fun r hr => ?_), ((Keeps.refl [] w).alloc _).alloc _⟩
    simp at hr ⊢
    rcases hr with rfl | rfl <;> simp)
  clear hW
  go_wp2_with fail
  go_loopw [5] (fun i wr => ∃ k : Nat, k ≤ 4 ∧ i = .int .i64 k ∧ Hid (Rw [(w.heap.size, 23, ra), (w.heap.size + 1, 23, rb)] wr ∧ Keeps [] w wr)) (fun i _ => 4 - (intOf i).toNat)
  case atStart => exact ⟨0, by omega, rfl, INV.out⟩
  case round =>
    clear INV
    obtain ⟨k, hk, rfl, hinv⟩ := hrel
    by_cases hlt : k < 4
    · have hi : (k : Int) < 4 := by omega
      have HER := Lib.hid (ferr_small k hlt)
      have HK1 := Lib.hid (show k + 1 ≤ 4 by omega)
      have HW := hinv
      clear hinv
      obtain ⟨x, hx⟩ : ∃ x, x = fpK (k : Int) a := ⟨_, rfl⟩
      have HLx := Lib.hid (show x.length = 32 by rw [hx]; exact fpK_len _ _)
      have HQx := Lib.hid hx
      have HIx := Lib.hid (show (Tryd.prog.info? 25).map (·.size) = some (encB x).length by rw [length_encB, HLx.out]; exact infoPrF)
      have HNx := Lib.hid (show (Tryd.prog.info? 25).map (·.size) = some (encB x).toArray.size by rw [List.size_toArray]; exact HIx.out)
      have HOx := Lib.hid (encB_one x)
      have HCx := Lib.hid (show (encB z32).length = (encB x).length by rw [length_encB, length_encB, HLx.out, z32_len])
      obtain ⟨y, hy⟩ : ∃ y, y = fpK (k : Int) b := ⟨_, rfl⟩
      have HLy := Lib.hid (show y.length = 32 by rw [hy]; exact fpK_len _ _)
      have HQy := Lib.hid hy
      have HIy := Lib.hid (show (Tryd.prog.info? 25).map (·.size) = some (encB y).length by rw [length_encB, HLy.out]; exact infoPrF)
      have HNy := Lib.hid (show (Tryd.prog.info? 25).map (·.size) = some (encB y).toArray.size by rw [List.size_toArray]; exact HIy.out)
      have HOy := Lib.hid (encB_one y)
      have HCy := Lib.hid (show (encB z32).length = (encB y).length by rw [length_encB, length_encB, HLy.out, z32_len])
      have HNE := Lib.hid (show ∀ v, x = y → (binOp .neq 25 (.agg (encB x).toArray) (.agg (encB y).toArray)).run Tryd.prog v = .ok (.bool false) v from fun v e => by rw [← e]; exact ne_print v x HLx.out)
      have HSM := Lib.hid (show a = b → x = y from fun e => by rw [hx, hy, e])
      have fg := fun y1 y2 v => run_eqGuard_arr (P := Tryd.prog) v guard_pr .neq y1 y2 (encB x).toArray (encB y).toArray
      have fgb := fun y1 y2 v => run_eqGuard_arr (P := Tryd.prog) v guard_blk .eql y1 y2 ra.toArray rb.toArray
      have HSZ := Lib.hid (show (strB x).size = 32 from HLx.out)
      obtain ⟨xs, hxs⟩ : ∃ v, v = encB x := ⟨_, rfl⟩
      rw [← hxs] at HIx HNx HOx HCx 
      have HSx := Lib.hid hxs
      obtain ⟨ys, hys⟩ : ∃ v, v = encB y := ⟨_, rfl⟩
      rw [← hys] at HIy HNy HOy HCy 
      have HSy := Lib.hid hys
      rw [← hxs, ← hys] at fg HNE
      clear hx hy hxs hys
      go_wp2_with (refine wpList_load_row rfl 23 (.tmp 2) rfl w.heap.size rfl 23 ra.toArray (0, 0) _ (HW.out.1 _ (List.mem_cons_self)) Tryd.underlying23 rfl HIA.out ?_)
      rw [HAS.out]
      refine (of_any k a _ HA.out (HC.out.1.keeps HW.out.2 (by simp))).mono ?_
      rintro e w1 ⟨rfl, hk1⟩
      rw [← HQx.out, ← HSx.out, ← HAS.out, HER.out]
      have H1 := Lib.hid (And.intro (HW.out.1.keeps0 hk1) (HW.out.2.trans hk1 (by simp)))
      clear hk1 HW
      obtain ⟨g1, hg1⟩ : ∃ g, g = w1.heap.size := ⟨_, rfl⟩
      have HG1 := Lib.hid hg1
      clear hg1
      go_wp2_with (first
        | (refine wpList_load_row rfl 23 (.tmp 3) rfl (w.heap.size + 1) rfl 23 rb.toArray (0, 0) _ (H2.out.1 (w.heap.size + 1, 23, rb) (by simp)) Tryd.underlying23 rfl HIB.out ?_)
        | (refine wpList_store_rowK rfl 25 (.tmp 6) (.tmp 20) rfl w1.heap.size xs (encB z32) 25 rfl rfl (by rw [HZ.out]; exact heap_alloc_new _ _) HCx.out HIx.out HOx.out ?_
           intro w2 h2 hk2
           have e2 := And.intro (H1.out.1.new hk2 h2.out) (H1.out.2.new hk2)
           rw [← HG1.out] at e2
           have H2 := Lib.hid e2
           clear h2 hk2 e2
           rw [← HG1.out]))
      rw [HBS.out]
      refine (of_any k b w2 HB.out (HC.out.1.keeps H2.out.2 (by simp))).mono ?_
      rintro e w3 ⟨rfl, hk3⟩
      rw [← HQy.out, ← HSy.out, ← HBS.out, HER.out]
      have H3 := Lib.hid (And.intro (H2.out.1.keeps0 hk3) (H2.out.2.trans hk3 (by simp)))
      clear hk3 H1
      obtain ⟨g2, hg2⟩ : ∃ g, g = w3.heap.size := ⟨_, rfl⟩
      have HG2 := Lib.hid hg2
      clear hg2
      obtain ⟨B1, hB1⟩ : ∃ B, B = Op.bytesLess x y := ⟨_, rfl⟩
      obtain ⟨B2, hB2⟩ : ∃ B, B = Op.bytesLess y x := ⟨_, rfl⟩
      have HB1 := Lib.hid hB1
      have HB2 := Lib.hid hB2
      have hcase : (a = b ∧ x = y ∧ B1 = false ∧ B2 = false) ∨ (a ≠ b ∧ B1 = true ∧ B2 = false) ∨ (a ≠ b ∧ B1 = false ∧ B2 = true) ∨ (a ≠ b ∧ x = y ∧ B1 = false ∧ B2 = false) := by
        by_cases hab : a = b
        · have hxy := HSM.out hab
          exact .inl ⟨hab, hxy, by rw [hB1, hxy, bl_same], by rw [hB2, hxy, bl_same]⟩
        · cases h1 : B1 with
          | true =>
            have := bl_not_both x y
            rw [← hB1, ← hB2, h1] at this
            exact .inr (.inl ⟨hab, rfl, by simpa using this⟩)
          | false =>
            cases h2 : B2 with
            | true => exact .inr (.inr (.inl ⟨hab, rfl, rfl⟩))
            | false =>
              refine .inr (.inr (.inr ⟨hab, ?_, rfl, rfl⟩))
              refine Classical.byContradiction fun hne => ?_
              have := bl_one x y hne
              rw [← hB1, ← hB2, h1, h2] at this
              simp at this
      clear hB1 hB2 HSM
      rcases hcase with ⟨hab, hxy, h1, h2⟩ | ⟨hab, h1, h2⟩ | ⟨hab, h1, h2⟩ | ⟨hab, hxy, h1, h2⟩
      · have feb : ∀ v, (binOp .eql 23 (.agg ra.toArray) (.agg rb.toArray)).run Tryd.prog v = .ok (.bool true) v := fun v => by rw [HEB.out v, hab]; simp
        have fne := fun v => HNE.out v hxy
        have HV1 := Lib.hid (show Op.bytesLess x y = false by rw [← HB1.out, h1])
        have HV2 := Lib.hid (show Op.bytesLess y x = false by rw [← HB2.out, h2])
        have hst : Op.bytesLess (strB x).toList (strB y).toList = false := by rw [strB_toList, strB_toList]; exact HV1.out
        have hsz : (strB x).size = 32 := HSZ.out
        clear hab h1 h2 hxy
        go_wp2_with (first
            | (refine wpList_store_rowK rfl 25 (.tmp 8) (.tmp 26) rfl w3.heap.size ys (encB z32) 25 rfl rfl (by rw [HZ.out]; exact heap_alloc_new _ _) HCy.out HIy.out HOy.out ?_
               intro w4 h4 hk4
               have e4 := And.intro (H3.out.1.new hk4 h4.out) (H3.out.2.new hk4)
               rw [← HG2.out] at e4
               have H4 := Lib.hid e4
               clear h4 hk4 e4
               rw [← HG2.out])
            | (refine wpList_unguard (by rfl) (wpList_load_row rfl 23 (.tmp 2) rfl w.heap.size rfl 23 ra.toArray (0, 0) _ (H4.out.1 (w.heap.size, 23, ra) (by simp)) Tryd.underlying23 rfl HIA.out ?_))
            | (refine wpList_unguard (by rfl) (wpList_load_row rfl 23 (.tmp 3) rfl (w.heap.size + 1) rfl 23 rb.toArray (0, 0) _ (H4.out.1 ((w.heap.size + 1), 23, rb) (by simp)) Tryd.underlying23 rfl HIB.out ?_))
            | (refine wpList_unguard (by rfl) (wpList_load_row rfl 25 (.tmp 6) rfl g1 rfl 25 xs.toArray (0, 0) _ (H4.out.1 (g1, 25, xs) (by simp)) Tryd.underlying25 rfl HNx.out ?_))
            | (refine wpList_unguard (by rfl) (wpList_load_row rfl 25 (.tmp 8) rfl g2 rfl 25 ys.toArray (0, 0) _ (H4.out.1 (g2, 25, ys) (by simp)) Tryd.underlying25 rfl HNy.out ?_)))
        have HR := Lib.hid (show Rw [(g1, 25, xs), (g2, 25, ys), (w.heap.size, 23, ra), (w.heap.size + 1, 23, rb)] w4 ∧ Keeps [] w w4 from ⟨H4.out.1.sub (fun r hr => by simp at hr ⊢; rcases hr with rfl | rfl | rfl | rfl <;> simp), H4.out.2⟩)
        clear H4 H3 H2
        refine seq_start (by kernel_rfl) (Rw [(g1, 25, xs), (g2, 25, ys), (w.heap.size, 23, ra), (w.heap.size + 1, 23, rb)]) 8 [0, 1, 2, 3, 4, 5, 6, 7] rfl (HR.out.1) (fun hS => ?_)
        have H8 := Lib.hid (show Rw [(g1, 25, xs), (g2, 25, ys), (w.heap.size, 23, ra), (w.heap.size + 1, 23, rb)] w4.drew ∧ Keeps [] w w4.drew from ⟨HR.out.1, HR.out.2.drew⟩)
        clear HR
        generalize w4.drew = V at H8 hS ⊢
        refine seq_take (v := .agg xs.toArray) rfl (by kernel_rfl) (by kernel_rfl) (by kernel_rfl) ?_ (by assumption) ?_
        · exact yieldsIf_load_mid (by rfl) 25 (.tmp 6) (by rfl) g1 0 (by rfl) xs _ (fun z hz => rangeAt_rowF (hz (g1, 25, xs) (by simp))) Tryd.underlying25 rfl HIx.out
        simp only [Act.put, List.setIfInBounds_toArray, List.set_cons_zero, List.set_cons_succ]
        refine seq_take (v := .agg ys.toArray) rfl (by kernel_rfl) (by kernel_rfl) (by kernel_rfl) ?_ (by assumption) ?_
        · exact yieldsIf_load_mid (by rfl) 25 (.tmp 8) (by rfl) g2 0 (by rfl) ys _ (fun z hz => rangeAt_rowF (hz (g2, 25, ys) (by simp))) Tryd.underlying25 rfl HIy.out
        simp only [Act.put, List.setIfInBounds_toArray, List.set_cons_zero, List.set_cons_succ]
        iterate 1 (refine seq_later ?_; simp only [List.cons_append, List.nil_append])
        refine seq_take (v := .agg ys.toArray) rfl (by kernel_rfl) (by kernel_rfl) (by kernel_rfl) ?_ (by assumption) ?_
        · exact yieldsIf_load_mid (by rfl) 25 (.tmp 8) (by rfl) g2 0 (by rfl) ys _ (fun z hz => rangeAt_rowF (hz (g2, 25, ys) (by simp))) Tryd.underlying25 rfl HIy.out
        simp only [Act.put, List.setIfInBounds_toArray, List.set_cons_zero, List.set_cons_succ]
        refine seq_take (v := .agg xs.toArray) rfl (by kernel_rfl) (by kernel_rfl) (by kernel_rfl) ?_ (by assumption) ?_
        · exact yieldsIf_load_mid (by rfl) 25 (.tmp 6) (by rfl) g1 0 (by rfl) xs _ (fun z hz => rangeAt_rowF (hz (g1, 25, xs) (by simp))) Tryd.underlying25 rfl HIx.out
        simp only [Act.put, List.setIfInBounds_toArray, List.set_cons_zero, List.set_cons_succ]
        iterate 3 (refine seq_later ?_; simp only [List.cons_append, List.nil_append])
        refine seq_do rfl (by kernel_rfl) (by rfl) (fun K hK => ?_)
        go_simp
        rw [HSx.out, HSy.out]
        refine (less_any x y V HLx.out HLy.out).mono ?_
        rintro e w9 ⟨rfl, hk9⟩
        rw [← HSx.out, ← HSy.out, HV1.out]
        have H9 := Lib.hid (And.intro (H8.out.1.keeps0 hk9) (H8.out.2.trans hk9 (by simp)))
        clear hk9 H8
        refine hK.out (Rw [(g1, 25, xs), (g2, 25, ys), (w.heap.size, 23, ra), (w.heap.size + 1, 23, rb)]) _ _ (fun _ h => h) H9.out.1 (fun hS => ?_)
        refine seq_do rfl (by kernel_rfl) (by rfl) (fun K hK => ?_)
        go_simp
        rw [HSx.out, HSy.out]
        refine (less_any y x w9 HLy.out HLx.out).mono ?_
        rintro e w10 ⟨rfl, hk10⟩
        rw [← HSx.out, ← HSy.out, HV2.out]
        have H10 := Lib.hid (And.intro (H9.out.1.keeps0 hk10) (H9.out.2.trans hk10 (by simp)))
        clear hk10 H9
        refine hK.out (Rw [(g1, 25, xs), (g2, 25, ys), (w.heap.size, 23, ra), (w.heap.size + 1, 23, rb)]) _ _ (fun _ h => h) H10.out.1 (fun hS => ?_)
        refine seq_take (v := ?_) rfl (by kernel_rfl) (by kernel_rfl) (by kernel_rfl) (Or.inl ⟨by rfl, fun w' hSw => ?_⟩) (by assumption) ?_
        rotate_left
        · go_simp
          with_reducible rfl
        simp only [Act.put, List.setIfInBounds_toArray, List.set_cons_zero, List.set_cons_succ]
        refine seq_take (v := ?_) rfl (by kernel_rfl) (by kernel_rfl) (by kernel_rfl) (Or.inl ⟨by rfl, fun w' hSw => ?_⟩) (by assumption) ?_
        rotate_left
        · go_simp
          with_reducible rfl
        simp only [Act.put, List.setIfInBounds_toArray, List.set_cons_zero, List.set_cons_succ]
        refine seq_done (by kernel_rfl) ?_
        all_goals skip
        clear hS
        go_wp2_with fail
        refine seq_start (by kernel_rfl) (Rw [(g1, 25, xs), (g2, 25, ys), (w.heap.size, 23, ra), (w.heap.size + 1, 23, rb)]) 32 [0, 1, 2, 3, 4, 5, 6, 7, 8, 9, 10, 11, 12, 13, 14, 15, 16, 17, 18, 19, 20, 21, 22, 23, 24, 25, 26, 27, 28, 29, 30, 31] rfl (H10.out.1) (fun hS => ?_)
        have H11 := Lib.hid (show Rw [(g1, 25, xs), (g2, 25, ys), (w.heap.size, 23, ra), (w.heap.size + 1, 23, rb)] w10.drew ∧ Keeps [] w w10.drew from ⟨H10.out.1, H10.out.2.drew⟩)
        clear H10
        generalize w10.drew = V2 at H11 hS ⊢
        refine seq_take (v := ?_) rfl (by kernel_rfl) (by kernel_rfl) (by kernel_rfl) (Or.inl ⟨by rfl, fun w' hSw => ?_⟩) (by assumption) ?_
        rotate_left
        · go_simp
          with_reducible rfl
        simp only [Act.put, List.setIfInBounds_toArray, List.set_cons_zero, List.set_cons_succ]
        refine seq_take (v := ?_) rfl (by kernel_rfl) (by kernel_rfl) (by kernel_rfl) (Or.inl ⟨by rfl, fun w' hSw => ?_⟩) (by assumption) ?_
        rotate_left
        · go_simp
          with_reducible rfl
        simp only [Act.put, List.setIfInBounds_toArray, List.set_cons_zero, List.set_cons_succ]
        refine seq_take (v := undef) rfl (by kernel_rfl) (by kernel_rfl) (by kernel_rfl) (Or.inr ⟨by rfl, rfl⟩) (by assumption) ?_
        simp only [Act.put, List.setIfInBounds_toArray, List.set_cons_zero, List.set_cons_succ]
        refine seq_take (v := ?_) rfl (by kernel_rfl) (by kernel_rfl) (by kernel_rfl) (Or.inl ⟨by rfl, fun w' hSw => ?_⟩) (by assumption) ?_
        rotate_left
        · go_simp
          with_reducible rfl
        simp only [Act.put, List.setIfInBounds_toArray, List.set_cons_zero, List.set_cons_succ]
        refine seq_take (v := ?_) rfl (by kernel_rfl) (by kernel_rfl) (by kernel_rfl) (Or.inl ⟨by rfl, fun w' hSw => ?_⟩) (by assumption) ?_
        rotate_left
        · go_simp
          with_reducible rfl
        simp only [Act.put, List.setIfInBounds_toArray, List.set_cons_zero, List.set_cons_succ]
        refine seq_take (v := ?_) rfl (by kernel_rfl) (by kernel_rfl) (by kernel_rfl) (Or.inl ⟨by rfl, fun w' hSw => ?_⟩) (by assumption) ?_
        rotate_left
        · go_simp
          with_reducible rfl
        simp only [Act.put, List.setIfInBounds_toArray, List.set_cons_zero, List.set_cons_succ]
        refine seq_take (v := ?_) rfl (by kernel_rfl) (by kernel_rfl) (by kernel_rfl) (Or.inl ⟨by rfl, fun w' hSw => ?_⟩) (by assumption) ?_
        rotate_left
        · go_simp
          with_reducible rfl
        simp only [Act.put, List.setIfInBounds_toArray, List.set_cons_zero, List.set_cons_succ]
        refine seq_take (v := ?_) rfl (by kernel_rfl) (by kernel_rfl) (by kernel_rfl) (Or.inl ⟨by rfl, fun w' hSw => ?_⟩) (by assumption) ?_
        rotate_left
        · go_simp
          with_reducible rfl
        simp only [Act.put, List.setIfInBounds_toArray, List.set_cons_zero, List.set_cons_succ]
        refine seq_take (v := ?_) rfl (by kernel_rfl) (by kernel_rfl) (by kernel_rfl) (Or.inl ⟨by rfl, fun w' hSw => ?_⟩) (by assumption) ?_
        rotate_left
        · go_simp
          with_reducible rfl
        simp only [Act.put, List.setIfInBounds_toArray, List.set_cons_zero, List.set_cons_succ]
        refine seq_take (v := ?_) rfl (by kernel_rfl) (by kernel_rfl) (by kernel_rfl) (Or.inl ⟨by rfl, fun w' hSw => ?_⟩) (by assumption) ?_
        rotate_left
        · go_simp
          with_reducible rfl
        simp only [Act.put, List.setIfInBounds_toArray, List.set_cons_zero, List.set_cons_succ]
        refine seq_take (v := ?_) rfl (by kernel_rfl) (by kernel_rfl) (by kernel_rfl) (Or.inl ⟨by rfl, fun w' hSw => ?_⟩) (by assumption) ?_
        rotate_left
        · go_simp
          with_reducible rfl
        simp only [Act.put, List.setIfInBounds_toArray, List.set_cons_zero, List.set_cons_succ]
        refine seq_take (v := ?_) rfl (by kernel_rfl) (by kernel_rfl) (by kernel_rfl) (Or.inl ⟨by rfl, fun w' hSw => ?_⟩) (by assumption) ?_
        rotate_left
        · go_simp
          with_reducible rfl
        simp only [Act.put, List.setIfInBounds_toArray, List.set_cons_zero, List.set_cons_succ]
        refine seq_take (v := .agg xs.toArray) rfl (by kernel_rfl) (by kernel_rfl) (by kernel_rfl) ?_ (by assumption) ?_
        · exact yieldsIf_load_mid (by rfl) 25 (.tmp 6) (by rfl) g1 0 (by rfl) xs _ (fun z hz => rangeAt_rowF (hz (g1, 25, xs) (by simp))) Tryd.underlying25 rfl HIx.out
        simp only [Act.put, List.setIfInBounds_toArray, List.set_cons_zero, List.set_cons_succ]
        refine seq_take (v := .agg ys.toArray) rfl (by kernel_rfl) (by kernel_rfl) (by kernel_rfl) ?_ (by assumption) ?_
        · exact yieldsIf_load_mid (by rfl) 25 (.tmp 8) (by rfl) g2 0 (by rfl) ys _ (fun z hz => rangeAt_rowF (hz (g2, 25, ys) (by simp))) Tryd.underlying25 rfl HIy.out
        simp only [Act.put, List.setIfInBounds_toArray, List.set_cons_zero, List.set_cons_succ]
        refine seq_take (v := .bool false) rfl (by kernel_rfl) (by kernel_rfl) (by kernel_rfl) ?_ (by assumption) ?_
        · exact yieldsIf_neqv (by rfl) 25 (.tmp 62) (.tmp 63) (by rfl) (.agg xs.toArray) (.agg ys.toArray) _ (by rfl) (by rfl) fne fg
        simp only [Act.put, List.setIfInBounds_toArray, List.set_cons_zero, List.set_cons_succ]
        refine seq_take (v := ?_) rfl (by kernel_rfl) (by kernel_rfl) (by kernel_rfl) (Or.inl ⟨by rfl, fun w' hSw => ?_⟩) (by assumption) ?_
        rotate_left
        · go_simp
          with_reducible rfl
        simp only [Act.put, List.setIfInBounds_toArray, List.set_cons_zero, List.set_cons_succ]
        refine seq_take (v := ?_) rfl (by kernel_rfl) (by kernel_rfl) (by kernel_rfl) (Or.inl ⟨by rfl, fun w' hSw => ?_⟩) (by assumption) ?_
        rotate_left
        · go_simp
          with_reducible rfl
        simp only [Act.put, List.setIfInBounds_toArray, List.set_cons_zero, List.set_cons_succ]
        refine seq_take (v := ?_) rfl (by kernel_rfl) (by kernel_rfl) (by kernel_rfl) (Or.inl ⟨by rfl, fun w' hSw => ?_⟩) (by assumption) ?_
        rotate_left
        · go_simp
          with_reducible rfl
        simp only [Act.put, List.setIfInBounds_toArray, List.set_cons_zero, List.set_cons_succ]
        refine seq_take (v := ?_) rfl (by kernel_rfl) (by kernel_rfl) (by kernel_rfl) (Or.inl ⟨by rfl, fun w' hSw => ?_⟩) (by assumption) ?_
        rotate_left
        · go_simp
          with_reducible rfl
        simp only [Act.put, List.setIfInBounds_toArray, List.set_cons_zero, List.set_cons_succ]
        refine seq_take (v := .agg xs.toArray) rfl (by kernel_rfl) (by kernel_rfl) (by kernel_rfl) ?_ (by assumption) ?_
        · exact yieldsIf_load_mid (by rfl) 25 (.tmp 6) (by rfl) g1 0 (by rfl) xs _ (fun z hz => rangeAt_rowF (hz (g1, 25, xs) (by simp))) Tryd.underlying25 rfl HIx.out
        simp only [Act.put, List.setIfInBounds_toArray, List.set_cons_zero, List.set_cons_succ]
        iterate 1 (refine seq_later ?_; simp only [List.cons_append, List.nil_append])
        refine seq_take (v := .agg ys.toArray) rfl (by kernel_rfl) (by kernel_rfl) (by kernel_rfl) ?_ (by assumption) ?_
        · exact yieldsIf_load_mid (by rfl) 25 (.tmp 8) (by rfl) g2 0 (by rfl) ys _ (fun z hz => rangeAt_rowF (hz (g2, 25, ys) (by simp))) Tryd.underlying25 rfl HIy.out
        simp only [Act.put, List.setIfInBounds_toArray, List.set_cons_zero, List.set_cons_succ]
        iterate 10 (refine seq_later ?_; simp only [List.cons_append, List.nil_append])
        refine seq_do rfl (by kernel_rfl) (by rfl) (fun K hK => ?_)
        go_simp
        rw [HSx.out]
        refine (key_any x V2 HLx.out).mono ?_
        rintro e w12 ⟨rfl, hk12⟩
        rw [← HSx.out]
        have H12 := Lib.hid (And.intro (H11.out.1.keeps0 hk12) (H11.out.2.trans hk12 (by simp)))
        clear hk12 H11
        refine hK.out (Rw [(g1, 25, xs), (g2, 25, ys), (w.heap.size, 23, ra), (w.heap.size + 1, 23, rb)]) _ _ (fun _ h => h) H12.out.1 (fun hS => ?_)
        refine seq_do rfl (by kernel_rfl) (by rfl) (fun K hK => ?_)
        go_simp
        rw [HSy.out]
        refine (key_any y w12 HLy.out).mono ?_
        rintro e w13 ⟨rfl, hk13⟩
        rw [← HSy.out]
        have H13 := Lib.hid (And.intro (H12.out.1.keeps0 hk13) (H12.out.2.trans hk13 (by simp)))
        clear hk13 H12
        refine hK.out (Rw [(g1, 25, xs), (g2, 25, ys), (w.heap.size, 23, ra), (w.heap.size + 1, 23, rb)]) _ _ (fun _ h => h) H13.out.1 (fun hS => ?_)
        refine seq_take (v := ?_) rfl (by kernel_rfl) (by kernel_rfl) (by kernel_rfl) (Or.inl ⟨by rfl, fun w' hSw => ?_⟩) (by assumption) ?_
        rotate_left
        · go_simp
          with_reducible rfl
        simp only [Act.put, List.setIfInBounds_toArray, List.set_cons_zero, List.set_cons_succ]
        refine seq_take (v := ?_) rfl (by kernel_rfl) (by kernel_rfl) (by kernel_rfl) (Or.inl ⟨by rfl, fun w' hSw => ?_⟩) (by assumption) ?_
        rotate_left
        · go_simp
          with_reducible rfl
        simp only [Act.put, List.setIfInBounds_toArray, List.set_cons_zero, List.set_cons_succ]
        refine seq_take (v := ?_) rfl (by kernel_rfl) (by kernel_rfl) (by kernel_rfl) (Or.inl ⟨by rfl, fun w' hSw => ?_⟩) (by assumption) ?_
        rotate_left
        · go_simp
          with_reducible rfl
        simp only [Act.put, List.setIfInBounds_toArray, List.set_cons_zero, List.set_cons_succ]
        refine seq_take (v := ?_) rfl (by kernel_rfl) (by kernel_rfl) (by kernel_rfl) (Or.inl ⟨by rfl, fun w' hSw => ?_⟩) (by assumption) ?_
        rotate_left
        · go_simp
          with_reducible rfl
        simp only [Act.put, List.setIfInBounds_toArray, List.set_cons_zero, List.set_cons_succ]
        refine seq_take (v := .agg xs.toArray) rfl (by kernel_rfl) (by kernel_rfl) (by kernel_rfl) ?_ (by assumption) ?_
        · exact yieldsIf_load_mid (by rfl) 25 (.tmp 6) (by rfl) g1 0 (by rfl) xs _ (fun z hz => rangeAt_rowF (hz (g1, 25, xs) (by simp))) Tryd.underlying25 rfl HIx.out
        simp only [Act.put, List.setIfInBounds_toArray, List.set_cons_zero, List.set_cons_succ]
        refine seq_do rfl (by kernel_rfl) (by rfl) (fun K hK => ?_)
        go_simp
        rw [HSx.out]
        refine (key_any x w13 HLx.out).mono ?_
        rintro e w14 ⟨rfl, hk14⟩
        rw [← HSx.out]
        have H14 := Lib.hid (And.intro (H13.out.1.keeps0 hk14) (H13.out.2.trans hk14 (by simp)))
        clear hk14 H13
        refine hK.out (Rw [(g1, 25, xs), (g2, 25, ys), (w.heap.size, 23, ra), (w.heap.size + 1, 23, rb)]) _ _ (fun _ h => h) H14.out.1 (fun hS => ?_)
        refine seq_take (v := ?_) rfl (by kernel_rfl) (by kernel_rfl) (by kernel_rfl) (Or.inl ⟨by rfl, fun w' hSw => ?_⟩) (by assumption) ?_
        rotate_left
        · go_simp
          with_reducible rfl
        simp only [Act.put, List.setIfInBounds_toArray, List.set_cons_zero, List.set_cons_succ]
        refine seq_take (v := ?_) rfl (by kernel_rfl) (by kernel_rfl) (by kernel_rfl) (Or.inl ⟨by rfl, fun w' hSw => ?_⟩) (by assumption) ?_
        rotate_left
        · go_simp
          with_reducible rfl
        simp only [Act.put, List.setIfInBounds_toArray, List.set_cons_zero, List.set_cons_succ]
        refine seq_take (v := ?_) rfl (by kernel_rfl) (by kernel_rfl) (by kernel_rfl) (Or.inl ⟨by rfl, fun w' hSw => ?_⟩) (by assumption) ?_
        rotate_left
        · go_simp
          with_reducible rfl
        simp only [Act.put, List.setIfInBounds_toArray, List.set_cons_zero, List.set_cons_succ]
        refine seq_done (by kernel_rfl) ?_
        all_goals skip
        clear hS
        go_wp2_with fail
        go_roundw
        case rel => exact ⟨k + 1, HK1.out, by go_num, H14.out.1.sub (fun r hr => by simp at hr ⊢; rcases hr with rfl | rfl <;> simp), H14.out.2⟩
        case measure => have := HK1.out; simp [intOf]; omega
      · have feb : ∀ v, (binOp .eql 23 (.agg ra.toArray) (.agg rb.toArray)).run Tryd.prog v = .ok (.bool false) v := fun v => by
          rw [HEB.out v, show (a == b) = false by simpa using hab]
        have HV1 := Lib.hid (show Op.bytesLess x y = true by rw [← HB1.out, h1])
        have HV2 := Lib.hid (show Op.bytesLess y x = false by rw [← HB2.out, h2])
        have hst : Op.bytesLess (strB x).toList (strB y).toList = true := by rw [strB_toList, strB_toList]; exact HV1.out
        have hsz : (strB x).size = 32 := HSZ.out
        clear hab h1 h2
        go_wp2_with (first
            | (refine wpList_store_rowK rfl 25 (.tmp 8) (.tmp 26) rfl w3.heap.size ys (encB z32) 25 rfl rfl (by rw [HZ.out]; exact heap_alloc_new _ _) HCy.out HIy.out HOy.out ?_
               intro w4 h4 hk4
               have e4 := And.intro (H3.out.1.new hk4 h4.out) (H3.out.2.new hk4)
               rw [← HG2.out] at e4
               have H4 := Lib.hid e4
               clear h4 hk4 e4
               rw [← HG2.out])
            | (refine wpList_unguard (by rfl) (wpList_load_row rfl 23 (.tmp 2) rfl w.heap.size rfl 23 ra.toArray (0, 0) _ (H4.out.1 (w.heap.size, 23, ra) (by simp)) Tryd.underlying23 rfl HIA.out ?_))
            | (refine wpList_unguard (by rfl) (wpList_load_row rfl 23 (.tmp 3) rfl (w.heap.size + 1) rfl 23 rb.toArray (0, 0) _ (H4.out.1 ((w.heap.size + 1), 23, rb) (by simp)) Tryd.underlying23 rfl HIB.out ?_)))
        have HR := Lib.hid (show Rw [(g1, 25, xs), (g2, 25, ys), (w.heap.size, 23, ra), (w.heap.size + 1, 23, rb)] w4 ∧ Keeps [] w w4 from ⟨H4.out.1.sub (fun r hr => by simp at hr ⊢; rcases hr with rfl | rfl | rfl | rfl <;> simp), H4.out.2⟩)
        clear H4 H3 H2
        refine seq_start (by kernel_rfl) (Rw [(g1, 25, xs), (g2, 25, ys), (w.heap.size, 23, ra), (w.heap.size + 1, 23, rb)]) 8 [0, 1, 2, 3, 4, 5, 6, 7] rfl (HR.out.1) (fun hS => ?_)
        have H8 := Lib.hid (show Rw [(g1, 25, xs), (g2, 25, ys), (w.heap.size, 23, ra), (w.heap.size + 1, 23, rb)] w4.drew ∧ Keeps [] w w4.drew from ⟨HR.out.1, HR.out.2.drew⟩)
        clear HR
        generalize w4.drew = V at H8 hS ⊢
        refine seq_take (v := .agg xs.toArray) rfl (by kernel_rfl) (by kernel_rfl) (by kernel_rfl) ?_ (by assumption) ?_
        · exact yieldsIf_load_mid (by rfl) 25 (.tmp 6) (by rfl) g1 0 (by rfl) xs _ (fun z hz => rangeAt_rowF (hz (g1, 25, xs) (by simp))) Tryd.underlying25 rfl HIx.out
        simp only [Act.put, List.setIfInBounds_toArray, List.set_cons_zero, List.set_cons_succ]
        refine seq_take (v := .agg ys.toArray) rfl (by kernel_rfl) (by kernel_rfl) (by kernel_rfl) ?_ (by assumption) ?_
        · exact yieldsIf_load_mid (by rfl) 25 (.tmp 8) (by rfl) g2 0 (by rfl) ys _ (fun z hz => rangeAt_rowF (hz (g2, 25, ys) (by simp))) Tryd.underlying25 rfl HIy.out
        simp only [Act.put, List.setIfInBounds_toArray, List.set_cons_zero, List.set_cons_succ]
        iterate 1 (refine seq_later ?_; simp only [List.cons_append, List.nil_append])
        refine seq_take (v := .agg ys.toArray) rfl (by kernel_rfl) (by kernel_rfl) (by kernel_rfl) ?_ (by assumption) ?_
        · exact yieldsIf_load_mid (by rfl) 25 (.tmp 8) (by rfl) g2 0 (by rfl) ys _ (fun z hz => rangeAt_rowF (hz (g2, 25, ys) (by simp))) Tryd.underlying25 rfl HIy.out
        simp only [Act.put, List.setIfInBounds_toArray, List.set_cons_zero, List.set_cons_succ]
        refine seq_take (v := .agg xs.toArray) rfl (by kernel_rfl) (by kernel_rfl) (by kernel_rfl) ?_ (by assumption) ?_
        · exact yieldsIf_load_mid (by rfl) 25 (.tmp 6) (by rfl) g1 0 (by rfl) xs _ (fun z hz => rangeAt_rowF (hz (g1, 25, xs) (by simp))) Tryd.underlying25 rfl HIx.out
        simp only [Act.put, List.setIfInBounds_toArray, List.set_cons_zero, List.set_cons_succ]
        iterate 3 (refine seq_later ?_; simp only [List.cons_append, List.nil_append])
        refine seq_do rfl (by kernel_rfl) (by rfl) (fun K hK => ?_)
        go_simp
        rw [HSx.out, HSy.out]
        refine (less_any x y V HLx.out HLy.out).mono ?_
        rintro e w9 ⟨rfl, hk9⟩
        rw [← HSx.out, ← HSy.out, HV1.out]
        have H9 := Lib.hid (And.intro (H8.out.1.keeps0 hk9) (H8.out.2.trans hk9 (by simp)))
        clear hk9 H8
        refine hK.out (Rw [(g1, 25, xs), (g2, 25, ys), (w.heap.size, 23, ra), (w.heap.size + 1, 23, rb)]) _ _ (fun _ h => h) H9.out.1 (fun hS => ?_)
        refine seq_do rfl (by kernel_rfl) (by rfl) (fun K hK => ?_)
        go_simp
        rw [HSx.out, HSy.out]
        refine (less_any y x w9 HLy.out HLx.out).mono ?_
        rintro e w10 ⟨rfl, hk10⟩
        rw [← HSx.out, ← HSy.out, HV2.out]
        have H10 := Lib.hid (And.intro (H9.out.1.keeps0 hk10) (H9.out.2.trans hk10 (by simp)))
        clear hk10 H9
        refine hK.out (Rw [(g1, 25, xs), (g2, 25, ys), (w.heap.size, 23, ra), (w.heap.size + 1, 23, rb)]) _ _ (fun _ h => h) H10.out.1 (fun hS => ?_)
        refine seq_take (v := ?_) rfl (by kernel_rfl) (by kernel_rfl) (by kernel_rfl) (Or.inl ⟨by rfl, fun w' hSw => ?_⟩) (by assumption) ?_
        rotate_left
        · go_simp
          with_reducible rfl
        simp only [Act.put, List.setIfInBounds_toArray, List.set_cons_zero, List.set_cons_succ]
        refine seq_take (v := ?_) rfl (by kernel_rfl) (by kernel_rfl) (by kernel_rfl) (Or.inl ⟨by rfl, fun w' hSw => ?_⟩) (by assumption) ?_
        rotate_left
        · go_simp
          with_reducible rfl
        simp only [Act.put, List.setIfInBounds_toArray, List.set_cons_zero, List.set_cons_succ]
        refine seq_done (by kernel_rfl) ?_
        all_goals skip
        clear hS
        go_wp2_with fail
        refine seq_start (by kernel_rfl) (Rw [(g1, 25, xs), (g2, 25, ys), (w.heap.size, 23, ra), (w.heap.size + 1, 23, rb)]) 32 [0, 1, 2, 3, 4, 5, 6, 7, 8, 9, 10, 11, 12, 13, 14, 15, 16, 17, 18, 19, 20, 21, 22, 23, 24, 25, 26, 27, 28, 29, 30, 31] rfl (H10.out.1) (fun hS => ?_)
        have H11 := Lib.hid (show Rw [(g1, 25, xs), (g2, 25, ys), (w.heap.size, 23, ra), (w.heap.size + 1, 23, rb)] w10.drew ∧ Keeps [] w w10.drew from ⟨H10.out.1, H10.out.2.drew⟩)
        clear H10
        generalize w10.drew = V2 at H11 hS ⊢
        refine seq_take (v := ?_) rfl (by kernel_rfl) (by kernel_rfl) (by kernel_rfl) (Or.inl ⟨by rfl, fun w' hSw => ?_⟩) (by assumption) ?_
        rotate_left
        · go_simp
          with_reducible rfl
        simp only [Act.put, List.setIfInBounds_toArray, List.set_cons_zero, List.set_cons_succ]
        refine seq_take (v := ?_) rfl (by kernel_rfl) (by kernel_rfl) (by kernel_rfl) (Or.inl ⟨by rfl, fun w' hSw => ?_⟩) (by assumption) ?_
        rotate_left
        · go_simp
          with_reducible rfl
        simp only [Act.put, List.setIfInBounds_toArray, List.set_cons_zero, List.set_cons_succ]
        refine seq_take (v := ?_) rfl (by kernel_rfl) (by kernel_rfl) (by kernel_rfl) (Or.inl ⟨by rfl, fun w' hSw => ?_⟩) (by assumption) ?_
        rotate_left
        · go_simp
          with_reducible rfl
        simp only [Act.put, List.setIfInBounds_toArray, List.set_cons_zero, List.set_cons_succ]
        refine seq_take (v := ?_) rfl (by kernel_rfl) (by kernel_rfl) (by kernel_rfl) (Or.inl ⟨by rfl, fun w' hSw => ?_⟩) (by assumption) ?_
        rotate_left
        · go_simp
          with_reducible rfl
        simp only [Act.put, List.setIfInBounds_toArray, List.set_cons_zero, List.set_cons_succ]
        refine seq_take (v := ?_) rfl (by kernel_rfl) (by kernel_rfl) (by kernel_rfl) (Or.inl ⟨by rfl, fun w' hSw => ?_⟩) (by assumption) ?_
        rotate_left
        · go_simp
          with_reducible rfl
        simp only [Act.put, List.setIfInBounds_toArray, List.set_cons_zero, List.set_cons_succ]
        refine seq_take (v := ?_) rfl (by kernel_rfl) (by kernel_rfl) (by kernel_rfl) (Or.inl ⟨by rfl, fun w' hSw => ?_⟩) (by assumption) ?_
        rotate_left
        · go_simp
          with_reducible rfl
        simp only [Act.put, List.setIfInBounds_toArray, List.set_cons_zero, List.set_cons_succ]
        refine seq_take (v := ?_) rfl (by kernel_rfl) (by kernel_rfl) (by kernel_rfl) (Or.inl ⟨by rfl, fun w' hSw => ?_⟩) (by assumption) ?_
        rotate_left
        · go_simp
          with_reducible rfl
        simp only [Act.put, List.setIfInBounds_toArray, List.set_cons_zero, List.set_cons_succ]
        refine seq_take (v := ?_) rfl (by kernel_rfl) (by kernel_rfl) (by kernel_rfl) (Or.inl ⟨by rfl, fun w' hSw => ?_⟩) (by assumption) ?_
        rotate_left
        · go_simp
          with_reducible rfl
        simp only [Act.put, List.setIfInBounds_toArray, List.set_cons_zero, List.set_cons_succ]
        refine seq_take (v := undef) rfl (by kernel_rfl) (by kernel_rfl) (by kernel_rfl) (Or.inr ⟨by rfl, rfl⟩) (by assumption) ?_
        simp only [Act.put, List.setIfInBounds_toArray, List.set_cons_zero, List.set_cons_succ]
        refine seq_take (v := undef) rfl (by kernel_rfl) (by kernel_rfl) (by kernel_rfl) (Or.inr ⟨by rfl, rfl⟩) (by assumption) ?_
        simp only [Act.put, List.setIfInBounds_toArray, List.set_cons_zero, List.set_cons_succ]
        refine seq_take (v := ?_) rfl (by kernel_rfl) (by kernel_rfl) (by kernel_rfl) (Or.inl ⟨by rfl, fun w' hSw => ?_⟩) (by assumption) ?_
        rotate_left
        · go_simp
          with_reducible rfl
        simp only [Act.put, List.setIfInBounds_toArray, List.set_cons_zero, List.set_cons_succ]
        refine seq_take (v := ?_) rfl (by kernel_rfl) (by kernel_rfl) (by kernel_rfl) (Or.inl ⟨by rfl, fun w' hSw => ?_⟩) (by assumption) ?_
        rotate_left
        · go_simp
          with_reducible rfl
        simp only [Act.put, List.setIfInBounds_toArray, List.set_cons_zero, List.set_cons_succ]
        refine seq_take (v := undef) rfl (by kernel_rfl) (by kernel_rfl) (by kernel_rfl) (Or.inr ⟨by rfl, rfl⟩) (by assumption) ?_
        simp only [Act.put, List.setIfInBounds_toArray, List.set_cons_zero, List.set_cons_succ]
        refine seq_take (v := undef) rfl (by kernel_rfl) (by kernel_rfl) (by kernel_rfl) (Or.inr ⟨by rfl, rfl⟩) (by assumption) ?_
        simp only [Act.put, List.setIfInBounds_toArray, List.set_cons_zero, List.set_cons_succ]
        refine seq_take (v := undef) rfl (by kernel_rfl) (by kernel_rfl) (by kernel_rfl) (Or.inr ⟨by rfl, rfl⟩) (by assumption) ?_
        simp only [Act.put, List.setIfInBounds_toArray, List.set_cons_zero, List.set_cons_succ]
        refine seq_take (v := ?_) rfl (by kernel_rfl) (by kernel_rfl) (by kernel_rfl) (Or.inl ⟨by rfl, fun w' hSw => ?_⟩) (by assumption) ?_
        rotate_left
        · go_simp
          with_reducible rfl
        simp only [Act.put, List.setIfInBounds_toArray, List.set_cons_zero, List.set_cons_succ]
        refine seq_take (v := ?_) rfl (by kernel_rfl) (by kernel_rfl) (by kernel_rfl) (Or.inl ⟨by rfl, fun w' hSw => ?_⟩) (by assumption) ?_
        rotate_left
        · go_simp
          with_reducible rfl
        simp only [Act.put, List.setIfInBounds_toArray, List.set_cons_zero, List.set_cons_succ]
        refine seq_take (v := ?_) rfl (by kernel_rfl) (by kernel_rfl) (by kernel_rfl) (Or.inl ⟨by rfl, fun w' hSw => ?_⟩) (by assumption) ?_
        rotate_left
        · go_simp
          with_reducible rfl
        simp only [Act.put, List.setIfInBounds_toArray, List.set_cons_zero, List.set_cons_succ]
        refine seq_take (v := ?_) rfl (by kernel_rfl) (by kernel_rfl) (by kernel_rfl) (Or.inl ⟨by rfl, fun w' hSw => ?_⟩) (by assumption) ?_
        rotate_left
        · go_simp
          with_reducible rfl
        simp only [Act.put, List.setIfInBounds_toArray, List.set_cons_zero, List.set_cons_succ]
        refine seq_take (v := .agg xs.toArray) rfl (by kernel_rfl) (by kernel_rfl) (by kernel_rfl) ?_ (by assumption) ?_
        · exact yieldsIf_load_mid (by rfl) 25 (.tmp 6) (by rfl) g1 0 (by rfl) xs _ (fun z hz => rangeAt_rowF (hz (g1, 25, xs) (by simp))) Tryd.underlying25 rfl HIx.out
        simp only [Act.put, List.setIfInBounds_toArray, List.set_cons_zero, List.set_cons_succ]
        iterate 1 (refine seq_later ?_; simp only [List.cons_append, List.nil_append])
        refine seq_take (v := .agg ys.toArray) rfl (by kernel_rfl) (by kernel_rfl) (by kernel_rfl) ?_ (by assumption) ?_
        · exact yieldsIf_load_mid (by rfl) 25 (.tmp 8) (by rfl) g2 0 (by rfl) ys _ (fun z hz => rangeAt_rowF (hz (g2, 25, ys) (by simp))) Tryd.underlying25 rfl HIy.out
        simp only [Act.put, List.setIfInBounds_toArray, List.set_cons_zero, List.set_cons_succ]
        iterate 10 (refine seq_later ?_; simp only [List.cons_append, List.nil_append])
        refine seq_do rfl (by kernel_rfl) (by rfl) (fun K hK => ?_)
        go_simp
        rw [HSx.out]
        refine (key_any x V2 HLx.out).mono ?_
        rintro e w12 ⟨rfl, hk12⟩
        rw [← HSx.out]
        have H12 := Lib.hid (And.intro (H11.out.1.keeps0 hk12) (H11.out.2.trans hk12 (by simp)))
        clear hk12 H11
        refine hK.out (Rw [(g1, 25, xs), (g2, 25, ys), (w.heap.size, 23, ra), (w.heap.size + 1, 23, rb)]) _ _ (fun _ h => h) H12.out.1 (fun hS => ?_)
        refine seq_do rfl (by kernel_rfl) (by rfl) (fun K hK => ?_)
        go_simp
        rw [HSy.out]
        refine (key_any y w12 HLy.out).mono ?_
        rintro e w13 ⟨rfl, hk13⟩
        rw [← HSy.out]
        have H13 := Lib.hid (And.intro (H12.out.1.keeps0 hk13) (H12.out.2.trans hk13 (by simp)))
        clear hk13 H12
        refine hK.out (Rw [(g1, 25, xs), (g2, 25, ys), (w.heap.size, 23, ra), (w.heap.size + 1, 23, rb)]) _ _ (fun _ h => h) H13.out.1 (fun hS => ?_)
        refine seq_take (v := ?_) rfl (by kernel_rfl) (by kernel_rfl) (by kernel_rfl) (Or.inl ⟨by rfl, fun w' hSw => ?_⟩) (by assumption) ?_
        rotate_left
        · go_simp
          with_reducible rfl
        simp only [Act.put, List.setIfInBounds_toArray, List.set_cons_zero, List.set_cons_succ]
        refine seq_take (v := ?_) rfl (by kernel_rfl) (by kernel_rfl) (by kernel_rfl) (Or.inl ⟨by rfl, fun w' hSw => ?_⟩) (by assumption) ?_
        rotate_left
        · go_simp
          with_reducible rfl
        simp only [Act.put, List.setIfInBounds_toArray, List.set_cons_zero, List.set_cons_succ]
        refine seq_take (v := ?_) rfl (by kernel_rfl) (by kernel_rfl) (by kernel_rfl) (Or.inl ⟨by rfl, fun w' hSw => ?_⟩) (by assumption) ?_
        rotate_left
        · go_simp
          with_reducible rfl
        simp only [Act.put, List.setIfInBounds_toArray, List.set_cons_zero, List.set_cons_succ]
        refine seq_take (v := ?_) rfl (by kernel_rfl) (by kernel_rfl) (by kernel_rfl) (Or.inl ⟨by rfl, fun w' hSw => ?_⟩) (by assumption) ?_
        rotate_left
        · go_simp
          with_reducible rfl
        simp only [Act.put, List.setIfInBounds_toArray, List.set_cons_zero, List.set_cons_succ]
        refine seq_take (v := .agg xs.toArray) rfl (by kernel_rfl) (by kernel_rfl) (by kernel_rfl) ?_ (by assumption) ?_
        · exact yieldsIf_load_mid (by rfl) 25 (.tmp 6) (by rfl) g1 0 (by rfl) xs _ (fun z hz => rangeAt_rowF (hz (g1, 25, xs) (by simp))) Tryd.underlying25 rfl HIx.out
        simp only [Act.put, List.setIfInBounds_toArray, List.set_cons_zero, List.set_cons_succ]
        refine seq_do rfl (by kernel_rfl) (by rfl) (fun K hK => ?_)
        go_simp
        rw [HSx.out]
        refine (key_any x w13 HLx.out).mono ?_
        rintro e w14 ⟨rfl, hk14⟩
        rw [← HSx.out]
        have H14 := Lib.hid (And.intro (H13.out.1.keeps0 hk14) (H13.out.2.trans hk14 (by simp)))
        clear hk14 H13
        refine hK.out (Rw [(g1, 25, xs), (g2, 25, ys), (w.heap.size, 23, ra), (w.heap.size + 1, 23, rb)]) _ _ (fun _ h => h) H14.out.1 (fun hS => ?_)
        refine seq_take (v := ?_) rfl (by kernel_rfl) (by kernel_rfl) (by kernel_rfl) (Or.inl ⟨by rfl, fun w' hSw => ?_⟩) (by assumption) ?_
        rotate_left
        · go_simp
          with_reducible rfl
        simp only [Act.put, List.setIfInBounds_toArray, List.set_cons_zero, List.set_cons_succ]
        refine seq_take (v := ?_) rfl (by kernel_rfl) (by kernel_rfl) (by kernel_rfl) (Or.inl ⟨by rfl, fun w' hSw => ?_⟩) (by assumption) ?_
        rotate_left
        · go_simp
          with_reducible rfl
        simp only [Act.put, List.setIfInBounds_toArray, List.set_cons_zero, List.set_cons_succ]
        refine seq_take (v := ?_) rfl (by kernel_rfl) (by kernel_rfl) (by kernel_rfl) (Or.inl ⟨by rfl, fun w' hSw => ?_⟩) (by assumption) ?_
        rotate_left
        · go_simp
          with_reducible rfl
        simp only [Act.put, List.setIfInBounds_toArray, List.set_cons_zero, List.set_cons_succ]
        refine seq_done (by kernel_rfl) ?_
        all_goals skip
        clear hS
        go_wp2_with fail
        go_roundw
        case rel => exact ⟨k + 1, HK1.out, by go_num, H14.out.1.sub (fun r hr => by simp at hr ⊢; rcases hr with rfl | rfl <;> simp), H14.out.2⟩
        case measure => have := HK1.out; simp [intOf]; omega
      · have feb : ∀ v, (binOp .eql 23 (.agg ra.toArray) (.agg rb.toArray)).run Tryd.prog v = .ok (.bool false) v := fun v => by
          rw [HEB.out v, show (a == b) = false by simpa using hab]
        have HV1 := Lib.hid (show Op.bytesLess x y = false by rw [← HB1.out, h1])
        have HV2 := Lib.hid (show Op.bytesLess y x = true by rw [← HB2.out, h2])
        have hst : Op.bytesLess (strB x).toList (strB y).toList = false := by rw [strB_toList, strB_toList]; exact HV1.out
        have hsz : (strB x).size = 32 := HSZ.out
        clear hab h1 h2
        go_wp2_with (first
            | (refine wpList_store_rowK rfl 25 (.tmp 8) (.tmp 26) rfl w3.heap.size ys (encB z32) 25 rfl rfl (by rw [HZ.out]; exact heap_alloc_new _ _) HCy.out HIy.out HOy.out ?_
               intro w4 h4 hk4
               have e4 := And.intro (H3.out.1.new hk4 h4.out) (H3.out.2.new hk4)
               rw [← HG2.out] at e4
               have H4 := Lib.hid e4
               clear h4 hk4 e4
               rw [← HG2.out])
            | (refine wpList_unguard (by rfl) (wpList_load_row rfl 23 (.tmp 2) rfl w.heap.size rfl 23 ra.toArray (0, 0) _ (H4.out.1 (w.heap.size, 23, ra) (by simp)) Tryd.underlying23 rfl HIA.out ?_))
            | (refine wpList_unguard (by rfl) (wpList_load_row rfl 23 (.tmp 3) rfl (w.heap.size + 1) rfl 23 rb.toArray (0, 0) _ (H4.out.1 ((w.heap.size + 1), 23, rb) (by simp)) Tryd.underlying23 rfl HIB.out ?_)))
        have HR := Lib.hid (show Rw [(g1, 25, xs), (g2, 25, ys), (w.heap.size, 23, ra), (w.heap.size + 1, 23, rb)] w4 ∧ Keeps [] w w4 from ⟨H4.out.1.sub (fun r hr => by simp at hr ⊢; rcases hr with rfl | rfl | rfl | rfl <;> simp), H4.out.2⟩)
        clear H4 H3 H2
        refine seq_start (by kernel_rfl) (Rw [(g1, 25, xs), (g2, 25, ys), (w.heap.size, 23, ra), (w.heap.size + 1, 23, rb)]) 8 [0, 1, 2, 3, 4, 5, 6, 7] rfl (HR.out.1) (fun hS => ?_)
        have H8 := Lib.hid (show Rw [(g1, 25, xs), (g2, 25, ys), (w.heap.size, 23, ra), (w.heap.size + 1, 23, rb)] w4.drew ∧ Keeps [] w w4.drew from ⟨HR.out.1, HR.out.2.drew⟩)
        clear HR
        generalize w4.drew = V at H8 hS ⊢
        refine seq_take (v := .agg xs.toArray) rfl (by kernel_rfl) (by kernel_rfl) (by kernel_rfl) ?_ (by assumption) ?_
        · exact yieldsIf_load_mid (by rfl) 25 (.tmp 6) (by rfl) g1 0 (by rfl) xs _ (fun z hz => rangeAt_rowF (hz (g1, 25, xs) (by simp))) Tryd.underlying25 rfl HIx.out
        simp only [Act.put, List.setIfInBounds_toArray, List.set_cons_zero, List.set_cons_succ]
        refine seq_take (v := .agg ys.toArray) rfl (by kernel_rfl) (by kernel_rfl) (by kernel_rfl) ?_ (by assumption) ?_
        · exact yieldsIf_load_mid (by rfl) 25 (.tmp 8) (by rfl) g2 0 (by rfl) ys _ (fun z hz => rangeAt_rowF (hz (g2, 25, ys) (by simp))) Tryd.underlying25 rfl HIy.out
        simp only [Act.put, List.setIfInBounds_toArray, List.set_cons_zero, List.set_cons_succ]
        iterate 1 (refine seq_later ?_; simp only [List.cons_append, List.nil_append])
        refine seq_take (v := .agg ys.toArray) rfl (by kernel_rfl) (by kernel_rfl) (by kernel_rfl) ?_ (by assumption) ?_
        · exact yieldsIf_load_mid (by rfl) 25 (.tmp 8) (by rfl) g2 0 (by rfl) ys _ (fun z hz => rangeAt_rowF (hz (g2, 25, ys) (by simp))) Tryd.underlying25 rfl HIy.out
        simp only [Act.put, List.setIfInBounds_toArray, List.set_cons_zero, List.set_cons_succ]
        refine seq_take (v := .agg xs.toArray) rfl (by kernel_rfl) (by kernel_rfl) (by kernel_rfl) ?_ (by assumption) ?_
        · exact yieldsIf_load_mid (by rfl) 25 (.tmp 6) (by rfl) g1 0 (by rfl) xs _ (fun z hz => rangeAt_rowF (hz (g1, 25, xs) (by simp))) Tryd.underlying25 rfl HIx.out
        simp only [Act.put, List.setIfInBounds_toArray, List.set_cons_zero, List.set_cons_succ]
        iterate 3 (refine seq_later ?_; simp only [List.cons_append, List.nil_append])
        refine seq_do rfl (by kernel_rfl) (by rfl) (fun K hK => ?_)
        go_simp
        rw [HSx.out, HSy.out]
        refine (less_any x y V HLx.out HLy.out).mono ?_
        rintro e w9 ⟨rfl, hk9⟩
        rw [← HSx.out, ← HSy.out, HV1.out]
        have H9 := Lib.hid (And.intro (H8.out.1.keeps0 hk9) (H8.out.2.trans hk9 (by simp)))
        clear hk9 H8
        refine hK.out (Rw [(g1, 25, xs), (g2, 25, ys), (w.heap.size, 23, ra), (w.heap.size + 1, 23, rb)]) _ _ (fun _ h => h) H9.out.1 (fun hS => ?_)
        refine seq_do rfl (by kernel_rfl) (by rfl) (fun K hK => ?_)
        go_simp
        rw [HSx.out, HSy.out]
        refine (less_any y x w9 HLy.out HLx.out).mono ?_
        rintro e w10 ⟨rfl, hk10⟩
        rw [← HSx.out, ← HSy.out, HV2.out]
        have H10 := Lib.hid (And.intro (H9.out.1.keeps0 hk10) (H9.out.2.trans hk10 (by simp)))
        clear hk10 H9
        refine hK.out (Rw [(g1, 25, xs), (g2, 25, ys), (w.heap.size, 23, ra), (w.heap.size + 1, 23, rb)]) _ _ (fun _ h => h) H10.out.1 (fun hS => ?_)
        refine seq_take (v := ?_) rfl (by kernel_rfl) (by kernel_rfl) (by kernel_rfl) (Or.inl ⟨by rfl, fun w' hSw => ?_⟩) (by assumption) ?_
        rotate_left
        · go_simp
          with_reducible rfl
        simp only [Act.put, List.setIfInBounds_toArray, List.set_cons_zero, List.set_cons_succ]
        refine seq_take (v := ?_) rfl (by kernel_rfl) (by kernel_rfl) (by kernel_rfl) (Or.inl ⟨by rfl, fun w' hSw => ?_⟩) (by assumption) ?_
        rotate_left
        · go_simp
          with_reducible rfl
        simp only [Act.put, List.setIfInBounds_toArray, List.set_cons_zero, List.set_cons_succ]
        refine seq_done (by kernel_rfl) ?_
        all_goals skip
        clear hS
        go_wp2_with fail
        refine seq_start (by kernel_rfl) (Rw [(g1, 25, xs), (g2, 25, ys), (w.heap.size, 23, ra), (w.heap.size + 1, 23, rb)]) 32 [0, 1, 2, 3, 4, 5, 6, 7, 8, 9, 10, 11, 12, 13, 14, 15, 16, 17, 18, 19, 20, 21, 22, 23, 24, 25, 26, 27, 28, 29, 30, 31] rfl (H10.out.1) (fun hS => ?_)
        have H11 := Lib.hid (show Rw [(g1, 25, xs), (g2, 25, ys), (w.heap.size, 23, ra), (w.heap.size + 1, 23, rb)] w10.drew ∧ Keeps [] w w10.drew from ⟨H10.out.1, H10.out.2.drew⟩)
        clear H10
        generalize w10.drew = V2 at H11 hS ⊢
        refine seq_take (v := ?_) rfl (by kernel_rfl) (by kernel_rfl) (by kernel_rfl) (Or.inl ⟨by rfl, fun w' hSw => ?_⟩) (by assumption) ?_
        rotate_left
        · go_simp
          with_reducible rfl
        simp only [Act.put, List.setIfInBounds_toArray, List.set_cons_zero, List.set_cons_succ]
        refine seq_take (v := ?_) rfl (by kernel_rfl) (by kernel_rfl) (by kernel_rfl) (Or.inl ⟨by rfl, fun w' hSw => ?_⟩) (by assumption) ?_
        rotate_left
        · go_simp
          with_reducible rfl
        simp only [Act.put, List.setIfInBounds_toArray, List.set_cons_zero, List.set_cons_succ]
        refine seq_take (v := undef) rfl (by kernel_rfl) (by kernel_rfl) (by kernel_rfl) (Or.inr ⟨by rfl, rfl⟩) (by assumption) ?_
        simp only [Act.put, List.setIfInBounds_toArray, List.set_cons_zero, List.set_cons_succ]
        refine seq_take (v := ?_) rfl (by kernel_rfl) (by kernel_rfl) (by kernel_rfl) (Or.inl ⟨by rfl, fun w' hSw => ?_⟩) (by assumption) ?_
        rotate_left
        · go_simp
          with_reducible rfl
        simp only [Act.put, List.setIfInBounds_toArray, List.set_cons_zero, List.set_cons_succ]
        refine seq_take (v := ?_) rfl (by kernel_rfl) (by kernel_rfl) (by kernel_rfl) (Or.inl ⟨by rfl, fun w' hSw => ?_⟩) (by assumption) ?_
        rotate_left
        · go_simp
          with_reducible rfl
        simp only [Act.put, List.setIfInBounds_toArray, List.set_cons_zero, List.set_cons_succ]
        refine seq_take (v := ?_) rfl (by kernel_rfl) (by kernel_rfl) (by kernel_rfl) (Or.inl ⟨by rfl, fun w' hSw => ?_⟩) (by assumption) ?_
        rotate_left
        · go_simp
          with_reducible rfl
        simp only [Act.put, List.setIfInBounds_toArray, List.set_cons_zero, List.set_cons_succ]
        refine seq_take (v := ?_) rfl (by kernel_rfl) (by kernel_rfl) (by kernel_rfl) (Or.inl ⟨by rfl, fun w' hSw => ?_⟩) (by assumption) ?_
        rotate_left
        · go_simp
          with_reducible rfl
        simp only [Act.put, List.setIfInBounds_toArray, List.set_cons_zero, List.set_cons_succ]
        refine seq_take (v := ?_) rfl (by kernel_rfl) (by kernel_rfl) (by kernel_rfl) (Or.inl ⟨by rfl, fun w' hSw => ?_⟩) (by assumption) ?_
        rotate_left
        · go_simp
          with_reducible rfl
        simp only [Act.put, List.setIfInBounds_toArray, List.set_cons_zero, List.set_cons_succ]
        refine seq_take (v := ?_) rfl (by kernel_rfl) (by kernel_rfl) (by kernel_rfl) (Or.inl ⟨by rfl, fun w' hSw => ?_⟩) (by assumption) ?_
        rotate_left
        · go_simp
          with_reducible rfl
        simp only [Act.put, List.setIfInBounds_toArray, List.set_cons_zero, List.set_cons_succ]
        refine seq_take (v := ?_) rfl (by kernel_rfl) (by kernel_rfl) (by kernel_rfl) (Or.inl ⟨by rfl, fun w' hSw => ?_⟩) (by assumption) ?_
        rotate_left
        · go_simp
          with_reducible rfl
        simp only [Act.put, List.setIfInBounds_toArray, List.set_cons_zero, List.set_cons_succ]
        refine seq_take (v := ?_) rfl (by kernel_rfl) (by kernel_rfl) (by kernel_rfl) (Or.inl ⟨by rfl, fun w' hSw => ?_⟩) (by assumption) ?_
        rotate_left
        · go_simp
          with_reducible rfl
        simp only [Act.put, List.setIfInBounds_toArray, List.set_cons_zero, List.set_cons_succ]
        refine seq_take (v := ?_) rfl (by kernel_rfl) (by kernel_rfl) (by kernel_rfl) (Or.inl ⟨by rfl, fun w' hSw => ?_⟩) (by assumption) ?_
        rotate_left
        · go_simp
          with_reducible rfl
        simp only [Act.put, List.setIfInBounds_toArray, List.set_cons_zero, List.set_cons_succ]
        refine seq_take (v := undef) rfl (by kernel_rfl) (by kernel_rfl) (by kernel_rfl) (Or.inr ⟨by rfl, rfl⟩) (by assumption) ?_
        simp only [Act.put, List.setIfInBounds_toArray, List.set_cons_zero, List.set_cons_succ]
        refine seq_take (v := undef) rfl (by kernel_rfl) (by kernel_rfl) (by kernel_rfl) (Or.inr ⟨by rfl, rfl⟩) (by assumption) ?_
        simp only [Act.put, List.setIfInBounds_toArray, List.set_cons_zero, List.set_cons_succ]
        refine seq_take (v := undef) rfl (by kernel_rfl) (by kernel_rfl) (by kernel_rfl) (Or.inr ⟨by rfl, rfl⟩) (by assumption) ?_
        simp only [Act.put, List.setIfInBounds_toArray, List.set_cons_zero, List.set_cons_succ]
        refine seq_take (v := ?_) rfl (by kernel_rfl) (by kernel_rfl) (by kernel_rfl) (Or.inl ⟨by rfl, fun w' hSw => ?_⟩) (by assumption) ?_
        rotate_left
        · go_simp
          with_reducible rfl
        simp only [Act.put, List.setIfInBounds_toArray, List.set_cons_zero, List.set_cons_succ]
        refine seq_take (v := ?_) rfl (by kernel_rfl) (by kernel_rfl) (by kernel_rfl) (Or.inl ⟨by rfl, fun w' hSw => ?_⟩) (by assumption) ?_
        rotate_left
        · go_simp
          with_reducible rfl
        simp only [Act.put, List.setIfInBounds_toArray, List.set_cons_zero, List.set_cons_succ]
        refine seq_take (v := ?_) rfl (by kernel_rfl) (by kernel_rfl) (by kernel_rfl) (Or.inl ⟨by rfl, fun w' hSw => ?_⟩) (by assumption) ?_
        rotate_left
        · go_simp
          with_reducible rfl
        simp only [Act.put, List.setIfInBounds_toArray, List.set_cons_zero, List.set_cons_succ]
        refine seq_take (v := ?_) rfl (by kernel_rfl) (by kernel_rfl) (by kernel_rfl) (Or.inl ⟨by rfl, fun w' hSw => ?_⟩) (by assumption) ?_
        rotate_left
        · go_simp
          with_reducible rfl
        simp only [Act.put, List.setIfInBounds_toArray, List.set_cons_zero, List.set_cons_succ]
        refine seq_take (v := .agg xs.toArray) rfl (by kernel_rfl) (by kernel_rfl) (by kernel_rfl) ?_ (by assumption) ?_
        · exact yieldsIf_load_mid (by rfl) 25 (.tmp 6) (by rfl) g1 0 (by rfl) xs _ (fun z hz => rangeAt_rowF (hz (g1, 25, xs) (by simp))) Tryd.underlying25 rfl HIx.out
        simp only [Act.put, List.setIfInBounds_toArray, List.set_cons_zero, List.set_cons_succ]
        iterate 1 (refine seq_later ?_; simp only [List.cons_append, List.nil_append])
        refine seq_take (v := .agg ys.toArray) rfl (by kernel_rfl) (by kernel_rfl) (by kernel_rfl) ?_ (by assumption) ?_
        · exact yieldsIf_load_mid (by rfl) 25 (.tmp 8) (by rfl) g2 0 (by rfl) ys _ (fun z hz => rangeAt_rowF (hz (g2, 25, ys) (by simp))) Tryd.underlying25 rfl HIy.out
        simp only [Act.put, List.setIfInBounds_toArray, List.set_cons_zero, List.set_cons_succ]
        iterate 10 (refine seq_later ?_; simp only [List.cons_append, List.nil_append])
        refine seq_do rfl (by kernel_rfl) (by rfl) (fun K hK => ?_)
        go_simp
        rw [HSx.out]
        refine (key_any x V2 HLx.out).mono ?_
        rintro e w12 ⟨rfl, hk12⟩
        rw [← HSx.out]
        have H12 := Lib.hid (And.intro (H11.out.1.keeps0 hk12) (H11.out.2.trans hk12 (by simp)))
        clear hk12 H11
        refine hK.out (Rw [(g1, 25, xs), (g2, 25, ys), (w.heap.size, 23, ra), (w.heap.size + 1, 23, rb)]) _ _ (fun _ h => h) H12.out.1 (fun hS => ?_)
        refine seq_do rfl (by kernel_rfl) (by rfl) (fun K hK => ?_)
        go_simp
        rw [HSy.out]
        refine (key_any y w12 HLy.out).mono ?_
        rintro e w13 ⟨rfl, hk13⟩
        rw [← HSy.out]
        have H13 := Lib.hid (And.intro (H12.out.1.keeps0 hk13) (H12.out.2.trans hk13 (by simp)))
        clear hk13 H12
        refine hK.out (Rw [(g1, 25, xs), (g2, 25, ys), (w.heap.size, 23, ra), (w.heap.size + 1, 23, rb)]) _ _ (fun _ h => h) H13.out.1 (fun hS => ?_)
        refine seq_take (v := ?_) rfl (by kernel_rfl) (by kernel_rfl) (by kernel_rfl) (Or.inl ⟨by rfl, fun w' hSw => ?_⟩) (by assumption) ?_
        rotate_left
        · go_simp
          with_reducible rfl
        simp only [Act.put, List.setIfInBounds_toArray, List.set_cons_zero, List.set_cons_succ]
        refine seq_take (v := ?_) rfl (by kernel_rfl) (by kernel_rfl) (by kernel_rfl) (Or.inl ⟨by rfl, fun w' hSw => ?_⟩) (by assumption) ?_
        rotate_left
        · go_simp
          with_reducible rfl
        simp only [Act.put, List.setIfInBounds_toArray, List.set_cons_zero, List.set_cons_succ]
        refine seq_take (v := ?_) rfl (by kernel_rfl) (by kernel_rfl) (by kernel_rfl) (Or.inl ⟨by rfl, fun w' hSw => ?_⟩) (by assumption) ?_
        rotate_left
        · go_simp
          with_reducible rfl
        simp only [Act.put, List.setIfInBounds_toArray, List.set_cons_zero, List.set_cons_succ]
        refine seq_take (v := ?_) rfl (by kernel_rfl) (by kernel_rfl) (by kernel_rfl) (Or.inl ⟨by rfl, fun w' hSw => ?_⟩) (by assumption) ?_
        rotate_left
        · go_simp
          with_reducible rfl
        simp only [Act.put, List.setIfInBounds_toArray, List.set_cons_zero, List.set_cons_succ]
        refine seq_take (v := .agg xs.toArray) rfl (by kernel_rfl) (by kernel_rfl) (by kernel_rfl) ?_ (by assumption) ?_
        · exact yieldsIf_load_mid (by rfl) 25 (.tmp 6) (by rfl) g1 0 (by rfl) xs _ (fun z hz => rangeAt_rowF (hz (g1, 25, xs) (by simp))) Tryd.underlying25 rfl HIx.out
        simp only [Act.put, List.setIfInBounds_toArray, List.set_cons_zero, List.set_cons_succ]
        refine seq_do rfl (by kernel_rfl) (by rfl) (fun K hK => ?_)
        go_simp
        rw [HSx.out]
        refine (key_any x w13 HLx.out).mono ?_
        rintro e w14 ⟨rfl, hk14⟩
        rw [← HSx.out]
        have H14 := Lib.hid (And.intro (H13.out.1.keeps0 hk14) (H13.out.2.trans hk14 (by simp)))
        clear hk14 H13
        refine hK.out (Rw [(g1, 25, xs), (g2, 25, ys), (w.heap.size, 23, ra), (w.heap.size + 1, 23, rb)]) _ _ (fun _ h => h) H14.out.1 (fun hS => ?_)
        refine seq_take (v := ?_) rfl (by kernel_rfl) (by kernel_rfl) (by kernel_rfl) (Or.inl ⟨by rfl, fun w' hSw => ?_⟩) (by assumption) ?_
        rotate_left
        · go_simp
          with_reducible rfl
        simp only [Act.put, List.setIfInBounds_toArray, List.set_cons_zero, List.set_cons_succ]
        refine seq_take (v := ?_) rfl (by kernel_rfl) (by kernel_rfl) (by kernel_rfl) (Or.inl ⟨by rfl, fun w' hSw => ?_⟩) (by assumption) ?_
        rotate_left
        · go_simp
          with_reducible rfl
        simp only [Act.put, List.setIfInBounds_toArray, List.set_cons_zero, List.set_cons_succ]
        refine seq_take (v := ?_) rfl (by kernel_rfl) (by kernel_rfl) (by kernel_rfl) (Or.inl ⟨by rfl, fun w' hSw => ?_⟩) (by assumption) ?_
        rotate_left
        · go_simp
          with_reducible rfl
        simp only [Act.put, List.setIfInBounds_toArray, List.set_cons_zero, List.set_cons_succ]
        refine seq_done (by kernel_rfl) ?_
        all_goals skip
        clear hS
        go_wp2_with fail
        go_roundw
        case rel => exact ⟨k + 1, HK1.out, by go_num, H14.out.1.sub (fun r hr => by simp at hr ⊢; rcases hr with rfl | rfl <;> simp), H14.out.2⟩
        case measure => have := HK1.out; simp [intOf]; omega
      · have feb : ∀ v, (binOp .eql 23 (.agg ra.toArray) (.agg rb.toArray)).run Tryd.prog v = .ok (.bool false) v := fun v => by
          rw [HEB.out v, show (a == b) = false by simpa using hab]
        have fne := fun v => HNE.out v hxy
        have HV1 := Lib.hid (show Op.bytesLess x y = false by rw [← HB1.out, h1])
        have HV2 := Lib.hid (show Op.bytesLess y x = false by rw [← HB2.out, h2])
        have hst : Op.bytesLess (strB x).toList (strB y).toList = false := by rw [strB_toList, strB_toList]; exact HV1.out
        have hsz : (strB x).size = 32 := HSZ.out
        clear hab h1 h2 hxy
        go_wp2_with (first
            | (refine wpList_store_rowK rfl 25 (.tmp 8) (.tmp 26) rfl w3.heap.size ys (encB z32) 25 rfl rfl (by rw [HZ.out]; exact heap_alloc_new _ _) HCy.out HIy.out HOy.out ?_
               intro w4 h4 hk4
               have e4 := And.intro (H3.out.1.new hk4 h4.out) (H3.out.2.new hk4)
               rw [← HG2.out] at e4
               have H4 := Lib.hid e4
               clear h4 hk4 e4
               rw [← HG2.out])
            | (refine wpList_unguard (by rfl) (wpList_load_row rfl 23 (.tmp 2) rfl w.heap.size rfl 23 ra.toArray (0, 0) _ (H4.out.1 (w.heap.size, 23, ra) (by simp)) Tryd.underlying23 rfl HIA.out ?_))
            | (refine wpList_unguard (by rfl) (wpList_load_row rfl 23 (.tmp 3) rfl (w.heap.size + 1) rfl 23 rb.toArray (0, 0) _ (H4.out.1 ((w.heap.size + 1), 23, rb) (by simp)) Tryd.underlying23 rfl HIB.out ?_)))
        have HR := Lib.hid (show Rw [(g1, 25, xs), (g2, 25, ys), (w.heap.size, 23, ra), (w.heap.size + 1, 23, rb)] w4 ∧ Keeps [] w w4 from ⟨H4.out.1.sub (fun r hr => by simp at hr ⊢; rcases hr with rfl | rfl | rfl | rfl <;> simp), H4.out.2⟩)
        clear H4 H3 H2
        refine seq_start (by kernel_rfl) (Rw [(g1, 25, xs), (g2, 25, ys), (w.heap.size, 23, ra), (w.heap.size + 1, 23, rb)]) 8 [0, 1, 2, 3, 4, 5, 6, 7] rfl (HR.out.1) (fun hS => ?_)
        have H8 := Lib.hid (show Rw [(g1, 25, xs), (g2, 25, ys), (w.heap.size, 23, ra), (w.heap.size + 1, 23, rb)] w4.drew ∧ Keeps [] w w4.drew from ⟨HR.out.1, HR.out.2.drew⟩)
        clear HR
        generalize w4.drew = V at H8 hS ⊢
        refine seq_take (v := .agg xs.toArray) rfl (by kernel_rfl) (by kernel_rfl) (by kernel_rfl) ?_ (by assumption) ?_
        · exact yieldsIf_load_mid (by rfl) 25 (.tmp 6) (by rfl) g1 0 (by rfl) xs _ (fun z hz => rangeAt_rowF (hz (g1, 25, xs) (by simp))) Tryd.underlying25 rfl HIx.out
        simp only [Act.put, List.setIfInBounds_toArray, List.set_cons_zero, List.set_cons_succ]
        refine seq_take (v := .agg ys.toArray) rfl (by kernel_rfl) (by kernel_rfl) (by kernel_rfl) ?_ (by assumption) ?_
        · exact yieldsIf_load_mid (by rfl) 25 (.tmp 8) (by rfl) g2 0 (by rfl) ys _ (fun z hz => rangeAt_rowF (hz (g2, 25, ys) (by simp))) Tryd.underlying25 rfl HIy.out
        simp only [Act.put, List.setIfInBounds_toArray, List.set_cons_zero, List.set_cons_succ]
        iterate 1 (refine seq_later ?_; simp only [List.cons_append, List.nil_append])
        refine seq_take (v := .agg ys.toArray) rfl (by kernel_rfl) (by kernel_rfl) (by kernel_rfl) ?_ (by assumption) ?_
        · exact yieldsIf_load_mid (by rfl) 25 (.tmp 8) (by rfl) g2 0 (by rfl) ys _ (fun z hz => rangeAt_rowF (hz (g2, 25, ys) (by simp))) Tryd.underlying25 rfl HIy.out
        simp only [Act.put, List.setIfInBounds_toArray, List.set_cons_zero, List.set_cons_succ]
        refine seq_take (v := .agg xs.toArray) rfl (by kernel_rfl) (by kernel_rfl) (by kernel_rfl) ?_ (by assumption) ?_
        · exact yieldsIf_load_mid (by rfl) 25 (.tmp 6) (by rfl) g1 0 (by rfl) xs _ (fun z hz => rangeAt_rowF (hz (g1, 25, xs) (by simp))) Tryd.underlying25 rfl HIx.out
        simp only [Act.put, List.setIfInBounds_toArray, List.set_cons_zero, List.set_cons_succ]
        iterate 3 (refine seq_later ?_; simp only [List.cons_append, List.nil_append])
        refine seq_do rfl (by kernel_rfl) (by rfl) (fun K hK => ?_)
        go_simp
        rw [HSx.out, HSy.out]
        refine (less_any x y V HLx.out HLy.out).mono ?_
        rintro e w9 ⟨rfl, hk9⟩
        rw [← HSx.out, ← HSy.out, HV1.out]
        have H9 := Lib.hid (And.intro (H8.out.1.keeps0 hk9) (H8.out.2.trans hk9 (by simp)))
        clear hk9 H8
        refine hK.out (Rw [(g1, 25, xs), (g2, 25, ys), (w.heap.size, 23, ra), (w.heap.size + 1, 23, rb)]) _ _ (fun _ h => h) H9.out.1 (fun hS => ?_)
        refine seq_do rfl (by kernel_rfl) (by rfl) (fun K hK => ?_)
        go_simp
        rw [HSx.out, HSy.out]
        refine (less_any y x w9 HLy.out HLx.out).mono ?_
        rintro e w10 ⟨rfl, hk10⟩
        rw [← HSx.out, ← HSy.out, HV2.out]
        have H10 := Lib.hid (And.intro (H9.out.1.keeps0 hk10) (H9.out.2.trans hk10 (by simp)))
        clear hk10 H9
        refine hK.out (Rw [(g1, 25, xs), (g2, 25, ys), (w.heap.size, 23, ra), (w.heap.size + 1, 23, rb)]) _ _ (fun _ h => h) H10.out.1 (fun hS => ?_)
        refine seq_take (v := ?_) rfl (by kernel_rfl) (by kernel_rfl) (by kernel_rfl) (Or.inl ⟨by rfl, fun w' hSw => ?_⟩) (by assumption) ?_
        rotate_left
        · go_simp
          with_reducible rfl
        simp only [Act.put, List.setIfInBounds_toArray, List.set_cons_zero, List.set_cons_succ]
        refine seq_take (v := ?_) rfl (by kernel_rfl) (by kernel_rfl) (by kernel_rfl) (Or.inl ⟨by rfl, fun w' hSw => ?_⟩) (by assumption) ?_
        rotate_left
        · go_simp
          with_reducible rfl
        simp only [Act.put, List.setIfInBounds_toArray, List.set_cons_zero, List.set_cons_succ]
        refine seq_done (by kernel_rfl) ?_
        all_goals skip
        clear hS
        go_wp2_with fail
        refine seq_start (by kernel_rfl) (Rw [(g1, 25, xs), (g2, 25, ys), (w.heap.size, 23, ra), (w.heap.size + 1, 23, rb)]) 32 [0, 1, 2, 3, 4, 5, 6, 7, 8, 9, 10, 11, 12, 13, 14, 15, 16, 17, 18, 19, 20, 21, 22, 23, 24, 25, 26, 27, 28, 29, 30, 31] rfl (H10.out.1) (fun hS => ?_)
        have H11 := Lib.hid (show Rw [(g1, 25, xs), (g2, 25, ys), (w.heap.size, 23, ra), (w.heap.size + 1, 23, rb)] w10.drew ∧ Keeps [] w w10.drew from ⟨H10.out.1, H10.out.2.drew⟩)
        clear H10
        generalize w10.drew = V2 at H11 hS ⊢
        refine seq_take (v := ?_) rfl (by kernel_rfl) (by kernel_rfl) (by kernel_rfl) (Or.inl ⟨by rfl, fun w' hSw => ?_⟩) (by assumption) ?_
        rotate_left
        · go_simp
          with_reducible rfl
        simp only [Act.put, List.setIfInBounds_toArray, List.set_cons_zero, List.set_cons_succ]
        refine seq_take (v := ?_) rfl (by kernel_rfl) (by kernel_rfl) (by kernel_rfl) (Or.inl ⟨by rfl, fun w' hSw => ?_⟩) (by assumption) ?_
        rotate_left
        · go_simp
          with_reducible rfl
        simp only [Act.put, List.setIfInBounds_toArray, List.set_cons_zero, List.set_cons_succ]
        refine seq_take (v := undef) rfl (by kernel_rfl) (by kernel_rfl) (by kernel_rfl) (Or.inr ⟨by rfl, rfl⟩) (by assumption) ?_
        simp only [Act.put, List.setIfInBounds_toArray, List.set_cons_zero, List.set_cons_succ]
        refine seq_take (v := ?_) rfl (by kernel_rfl) (by kernel_rfl) (by kernel_rfl) (Or.inl ⟨by rfl, fun w' hSw => ?_⟩) (by assumption) ?_
        rotate_left
        · go_simp
          with_reducible rfl
        simp only [Act.put, List.setIfInBounds_toArray, List.set_cons_zero, List.set_cons_succ]
        refine seq_take (v := ?_) rfl (by kernel_rfl) (by kernel_rfl) (by kernel_rfl) (Or.inl ⟨by rfl, fun w' hSw => ?_⟩) (by assumption) ?_
        rotate_left
        · go_simp
          with_reducible rfl
        simp only [Act.put, List.setIfInBounds_toArray, List.set_cons_zero, List.set_cons_succ]
        refine seq_take (v := ?_) rfl (by kernel_rfl) (by kernel_rfl) (by kernel_rfl) (Or.inl ⟨by rfl, fun w' hSw => ?_⟩) (by assumption) ?_
        rotate_left
        · go_simp
          with_reducible rfl
        simp only [Act.put, List.setIfInBounds_toArray, List.set_cons_zero, List.set_cons_succ]
        refine seq_take (v := ?_) rfl (by kernel_rfl) (by kernel_rfl) (by kernel_rfl) (Or.inl ⟨by rfl, fun w' hSw => ?_⟩) (by assumption) ?_
        rotate_left
        · go_simp
          with_reducible rfl
        simp only [Act.put, List.setIfInBounds_toArray, List.set_cons_zero, List.set_cons_succ]
        refine seq_take (v := ?_) rfl (by kernel_rfl) (by kernel_rfl) (by kernel_rfl) (Or.inl ⟨by rfl, fun w' hSw => ?_⟩) (by assumption) ?_
        rotate_left
        · go_simp
          with_reducible rfl
        simp only [Act.put, List.setIfInBounds_toArray, List.set_cons_zero, List.set_cons_succ]
        refine seq_take (v := ?_) rfl (by kernel_rfl) (by kernel_rfl) (by kernel_rfl) (Or.inl ⟨by rfl, fun w' hSw => ?_⟩) (by assumption) ?_
        rotate_left
        · go_simp
          with_reducible rfl
        simp only [Act.put, List.setIfInBounds_toArray, List.set_cons_zero, List.set_cons_succ]
        refine seq_take (v := ?_) rfl (by kernel_rfl) (by kernel_rfl) (by kernel_rfl) (Or.inl ⟨by rfl, fun w' hSw => ?_⟩) (by assumption) ?_
        rotate_left
        · go_simp
          with_reducible rfl
        simp only [Act.put, List.setIfInBounds_toArray, List.set_cons_zero, List.set_cons_succ]
        refine seq_take (v := ?_) rfl (by kernel_rfl) (by kernel_rfl) (by kernel_rfl) (Or.inl ⟨by rfl, fun w' hSw => ?_⟩) (by assumption) ?_
        rotate_left
        · go_simp
          with_reducible rfl
        simp only [Act.put, List.setIfInBounds_toArray, List.set_cons_zero, List.set_cons_succ]
        refine seq_take (v := ?_) rfl (by kernel_rfl) (by kernel_rfl) (by kernel_rfl) (Or.inl ⟨by rfl, fun w' hSw => ?_⟩) (by assumption) ?_
        rotate_left
        · go_simp
          with_reducible rfl
        simp only [Act.put, List.setIfInBounds_toArray, List.set_cons_zero, List.set_cons_succ]
        refine seq_take (v := .agg xs.toArray) rfl (by kernel_rfl) (by kernel_rfl) (by kernel_rfl) ?_ (by assumption) ?_
        · exact yieldsIf_load_mid (by rfl) 25 (.tmp 6) (by rfl) g1 0 (by rfl) xs _ (fun z hz => rangeAt_rowF (hz (g1, 25, xs) (by simp))) Tryd.underlying25 rfl HIx.out
        simp only [Act.put, List.setIfInBounds_toArray, List.set_cons_zero, List.set_cons_succ]
        refine seq_take (v := .agg ys.toArray) rfl (by kernel_rfl) (by kernel_rfl) (by kernel_rfl) ?_ (by assumption) ?_
        · exact yieldsIf_load_mid (by rfl) 25 (.tmp 8) (by rfl) g2 0 (by rfl) ys _ (fun z hz => rangeAt_rowF (hz (g2, 25, ys) (by simp))) Tryd.underlying25 rfl HIy.out
        simp only [Act.put, List.setIfInBounds_toArray, List.set_cons_zero, List.set_cons_succ]
        refine seq_take (v := .bool false) rfl (by kernel_rfl) (by kernel_rfl) (by kernel_rfl) ?_ (by assumption) ?_
        · exact yieldsIf_neqv (by rfl) 25 (.tmp 62) (.tmp 63) (by rfl) (.agg xs.toArray) (.agg ys.toArray) _ (by rfl) (by rfl) fne fg
        simp only [Act.put, List.setIfInBounds_toArray, List.set_cons_zero, List.set_cons_succ]
        refine seq_take (v := ?_) rfl (by kernel_rfl) (by kernel_rfl) (by kernel_rfl) (Or.inl ⟨by rfl, fun w' hSw => ?_⟩) (by assumption) ?_
        rotate_left
        · go_simp
          with_reducible rfl
        simp only [Act.put, List.setIfInBounds_toArray, List.set_cons_zero, List.set_cons_succ]
        refine seq_take (v := ?_) rfl (by kernel_rfl) (by kernel_rfl) (by kernel_rfl) (Or.inl ⟨by rfl, fun w' hSw => ?_⟩) (by assumption) ?_
        rotate_left
        · go_simp
          with_reducible rfl
        simp only [Act.put, List.setIfInBounds_toArray, List.set_cons_zero, List.set_cons_succ]
        refine seq_take (v := ?_) rfl (by kernel_rfl) (by kernel_rfl) (by kernel_rfl) (Or.inl ⟨by rfl, fun w' hSw => ?_⟩) (by assumption) ?_
        rotate_left
        · go_simp
          with_reducible rfl
        simp only [Act.put, List.setIfInBounds_toArray, List.set_cons_zero, List.set_cons_succ]
        refine seq_take (v := ?_) rfl (by kernel_rfl) (by kernel_rfl) (by kernel_rfl) (Or.inl ⟨by rfl, fun w' hSw => ?_⟩) (by assumption) ?_
        rotate_left
        · go_simp
          with_reducible rfl
        simp only [Act.put, List.setIfInBounds_toArray, List.set_cons_zero, List.set_cons_succ]
        refine seq_take (v := .agg xs.toArray) rfl (by kernel_rfl) (by kernel_rfl) (by kernel_rfl) ?_ (by assumption) ?_
        · exact yieldsIf_load_mid (by rfl) 25 (.tmp 6) (by rfl) g1 0 (by rfl) xs _ (fun z hz => rangeAt_rowF (hz (g1, 25, xs) (by simp))) Tryd.underlying25 rfl HIx.out
        simp only [Act.put, List.setIfInBounds_toArray, List.set_cons_zero, List.set_cons_succ]
        iterate 1 (refine seq_later ?_; simp only [List.cons_append, List.nil_append])
        refine seq_take (v := .agg ys.toArray) rfl (by kernel_rfl) (by kernel_rfl) (by kernel_rfl) ?_ (by assumption) ?_
        · exact yieldsIf_load_mid (by rfl) 25 (.tmp 8) (by rfl) g2 0 (by rfl) ys _ (fun z hz => rangeAt_rowF (hz (g2, 25, ys) (by simp))) Tryd.underlying25 rfl HIy.out
        simp only [Act.put, List.setIfInBounds_toArray, List.set_cons_zero, List.set_cons_succ]
        iterate 10 (refine seq_later ?_; simp only [List.cons_append, List.nil_append])
        refine seq_do rfl (by kernel_rfl) (by rfl) (fun K hK => ?_)
        go_simp
        rw [HSx.out]
        refine (key_any x V2 HLx.out).mono ?_
        rintro e w12 ⟨rfl, hk12⟩
        rw [← HSx.out]
        have H12 := Lib.hid (And.intro (H11.out.1.keeps0 hk12) (H11.out.2.trans hk12 (by simp)))
        clear hk12 H11
        refine hK.out (Rw [(g1, 25, xs), (g2, 25, ys), (w.heap.size, 23, ra), (w.heap.size + 1, 23, rb)]) _ _ (fun _ h => h) H12.out.1 (fun hS => ?_)
        refine seq_do rfl (by kernel_rfl) (by rfl) (fun K hK => ?_)
        go_simp
        rw [HSy.out]
        refine (key_any y w12 HLy.out).mono ?_
        rintro e w13 ⟨rfl, hk13⟩
        rw [← HSy.out]
        have H13 := Lib.hid (And.intro (H12.out.1.keeps0 hk13) (H12.out.2.trans hk13 (by simp)))
        clear hk13 H12
        refine hK.out (Rw [(g1, 25, xs), (g2, 25, ys), (w.heap.size, 23, ra), (w.heap.size + 1, 23, rb)]) _ _ (fun _ h => h) H13.out.1 (fun hS => ?_)
        refine seq_take (v := ?_) rfl (by kernel_rfl) (by kernel_rfl) (by kernel_rfl) (Or.inl ⟨by rfl, fun w' hSw => ?_⟩) (by assumption) ?_
        rotate_left
        · go_simp
          with_reducible rfl
        simp only [Act.put, List.setIfInBounds_toArray, List.set_cons_zero, List.set_cons_succ]
        refine seq_take (v := ?_) rfl (by kernel_rfl) (by kernel_rfl) (by kernel_rfl) (Or.inl ⟨by rfl, fun w' hSw => ?_⟩) (by assumption) ?_
        rotate_left
        · go_simp
          with_reducible rfl
        simp only [Act.put, List.setIfInBounds_toArray, List.set_cons_zero, List.set_cons_succ]
        refine seq_take (v := ?_) rfl (by kernel_rfl) (by kernel_rfl) (by kernel_rfl) (Or.inl ⟨by rfl, fun w' hSw => ?_⟩) (by assumption) ?_
        rotate_left
        · go_simp
          with_reducible rfl
        simp only [Act.put, List.setIfInBounds_toArray, List.set_cons_zero, List.set_cons_succ]
        refine seq_take (v := ?_) rfl (by kernel_rfl) (by kernel_rfl) (by kernel_rfl) (Or.inl ⟨by rfl, fun w' hSw => ?_⟩) (by assumption) ?_
        rotate_left
        · go_simp
          with_reducible rfl
        simp only [Act.put, List.setIfInBounds_toArray, List.set_cons_zero, List.set_cons_succ]
        refine seq_take (v := .agg xs.toArray) rfl (by kernel_rfl) (by kernel_rfl) (by kernel_rfl) ?_ (by assumption) ?_
        · exact yieldsIf_load_mid (by rfl) 25 (.tmp 6) (by rfl) g1 0 (by rfl) xs _ (fun z hz => rangeAt_rowF (hz (g1, 25, xs) (by simp))) Tryd.underlying25 rfl HIx.out
        simp only [Act.put, List.setIfInBounds_toArray, List.set_cons_zero, List.set_cons_succ]
        refine seq_do rfl (by kernel_rfl) (by rfl) (fun K hK => ?_)
        go_simp
        rw [HSx.out]
        refine (key_any x w13 HLx.out).mono ?_
        rintro e w14 ⟨rfl, hk14⟩
        rw [← HSx.out]
        have H14 := Lib.hid (And.intro (H13.out.1.keeps0 hk14) (H13.out.2.trans hk14 (by simp)))
        clear hk14 H13
        refine hK.out (Rw [(g1, 25, xs), (g2, 25, ys), (w.heap.size, 23, ra), (w.heap.size + 1, 23, rb)]) _ _ (fun _ h => h) H14.out.1 (fun hS => ?_)
        refine seq_take (v := ?_) rfl (by kernel_rfl) (by kernel_rfl) (by kernel_rfl) (Or.inl ⟨by rfl, fun w' hSw => ?_⟩) (by assumption) ?_
        rotate_left
        · go_simp
          with_reducible rfl
        simp only [Act.put, List.setIfInBounds_toArray, List.set_cons_zero, List.set_cons_succ]
        refine seq_take (v := ?_) rfl (by kernel_rfl) (by kernel_rfl) (by kernel_rfl) (Or.inl ⟨by rfl, fun w' hSw => ?_⟩) (by assumption) ?_
        rotate_left
        · go_simp
          with_reducible rfl
        simp only [Act.put, List.setIfInBounds_toArray, List.set_cons_zero, List.set_cons_succ]
        refine seq_take (v := ?_) rfl (by kernel_rfl) (by kernel_rfl) (by kernel_rfl) (Or.inl ⟨by rfl, fun w' hSw => ?_⟩) (by assumption) ?_
        rotate_left
        · go_simp
          with_reducible rfl
        simp only [Act.put, List.setIfInBounds_toArray, List.set_cons_zero, List.set_cons_succ]
        refine seq_done (by kernel_rfl) ?_
        all_goals skip
        clear hS
        go_wp2_with fail
        go_roundw
        case rel => exact ⟨k + 1, HK1.out, by go_num, H14.out.1.sub (fun r hr => by simp at hr ⊢; rcases hr with rfl | rfl <;> simp), H14.out.2⟩
        case measure => have := HK1.out; simp [intOf]; omega
    · have hi : ¬ (k : Int) < 4 := by omega
      go_wp2_with fail
      refine (fsure_any wr (HC.out.1.keeps hinv.out.2 (by simp)) (HC.out.2.keeps hinv.out.2 (by simp))).mono ?_
      rintro e w1 ⟨rfl, hk1⟩
      have H1 := Lib.hid (hinv.out.2.trans hk1 (by simp))
      clear hk1
      go_wp2_with fail
      go_ret
      exact ⟨rfl, H1.out⟩
theorem same_row (xs ys : List Int) (w : World) (hh : Con w ∧ HT w) (ok1 : (K.arr 64 (K.int .u8)).ok w xs) (ok2 : (K.arr 64 (K.int .u8)).ok w ys) :
    Calls Tryd.prog 3 #[.agg ((K.arr 64 (K.int .u8)).cells xs).toArray, .agg ((K.arr 64 (K.int .u8)).cells ys).toArray] w fun e w' => e = .returned (.bool true) ∧ Below w.heap.size w w' := by
  obtain ⟨e1, e2⟩ := arrB_of_k ok1
  obtain ⟨e3, e4⟩ := arrB_of_k ok2
  rw [e1, e3]
  exact (same_any (toB xs) (toB ys) w hh.1 hh.2 e2 e4).mono fun _ _ h => ⟨h.1, h.2.below (Nat.le_refl _) (by simp)⟩
end Go.Proofs.YtomleanoofoejaaDoor
