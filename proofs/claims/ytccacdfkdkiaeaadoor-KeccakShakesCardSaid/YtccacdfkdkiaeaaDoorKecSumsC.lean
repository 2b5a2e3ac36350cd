/- The law on sums: called with any bytes it answers true. -/
import Derived.Test.YtccacdfkdkiaeaaDoorKecSureC
import Derived.Test.YtccacdfkdkiaeaaDoorKecRefText
import Derived.Test.YtccacdfkdkiaeaaDoorKecRefSum
import Derived.Test.YtccacdfkdkiaeaaDoorWant
namespace Go.Proofs.YtccacdfkdkiaeaaDoor
open Go.RowKit
attribute [local irreducible] turnK outK absAll hexAll

theorem some_u8 : (Tryd.prog.info? 5).isSome = true := by kernel_rfl
theorem cells_u8 : Tryd.prog.cellsOf 5 = 1 := by kernel_rfl
theorem guard_pr : Tryd.prog.eqGuardType Tryd.prog.depth 25 = false := by kernel_rfl
theorem eq_print (w : World) (x : List UInt8) (hx : x.length = 32) : (binOp .eql 25 (.agg (encB x).toArray) (.agg (encB x).toArray)).run Tryd.prog w = .ok (.bool true) w := by
  rw [run_eql_arrB w Tryd.underlying25 Tryd.underlying5 some_u8 cells_u8 x x hx hx]
  simp
theorem ne_print (w : World) (x : List UInt8) (hx : x.length = 32) : (binOp .neq 25 (.agg (encB x).toArray) (.agg (encB x).toArray)).run Tryd.prog w = .ok (.bool false) w := by
  rw [run_neq_arrB w Tryd.underlying25 Tryd.underlying5 some_u8 cells_u8 x x hx hx]
  simp

/-- 'x == y' in a region that draws, where its run is known. -/
theorem yieldsIf_eqv {P : Program} {ops : Array Oper} {S : World → Prop} {op : Oper} {a : Act} (hw : Region.wanted op (yielded ops a.tmps) = true) (t : TypeId) (x y : Operand) (ho : op.op = .binOp .eql t x y t)
    (v u r : Value) (hx : a.eval x = v) (hy : a.eval y = u) (hr : ∀ w, (binOp .eql t v u).run P w = .ok r w) (hg : ∀ y1 y2 w, (eqGuard .eql t y1 y2 v u).run P w = .ok () w) : YieldsIf P ops S op r a :=
  .inl ⟨hw, fun w _ => by
    unfold execOp
    simp only [ho, hx, hy, Sem.run_bind, hr, hg, Result.andThen_ok, Sem.run_pure]⟩
theorem rangeAt_row2 {w : World} {g : Nat} {cs : List Value} {t : TypeId} {fr : Nat × Nat} (h : w.heap[g]? = some (.cells cs.toArray t fr)) : w.rangeAt g 0 cs := fun j v hj => by
  rw [Nat.zero_add, cell_of_row _ _ _ _ _ _ h, List.getElem?_toArray]; exact hj

set_option maxHeartbeats 2000000 in
theorem sums_any (A : Option Addr) (l : List UInt8) (c : Nat) (w : World) (hc : Con w) (hl : l.length ≤ 140737488351232) (hr : RdB w A l) (hA : ∀ a, A = some a → 0 < l.length → a.block < w.heap.size) :
    Calls Tryd.prog 3 #[.slice A l.length c] w fun e w' => e = .returned (.bool true) ∧ Keeps [] w w' := by
  have HC := Lib.hid hc
  have HR := Lib.hid hr
  have HA := Lib.hid hA
  clear hc hr hA
  by_cases hbig : 3000 < l.length
  · have hb : (3000 : Int) < (l.length : Int) := by omega
    go_enter Tryd.func3, Tryd.ntmps3
    go_wp2_with fail
    refine (sure_any w HC.out).mono ?_
    rintro e w1 ⟨rfl, hk1⟩
    go_wp2_with fail
    go_ret
    exact ⟨rfl, hk1⟩
  · have hb : ¬ (3000 : Int) < (l.length : Int) := by omega
    have HLB := Lib.hid (show l.length ≤ 1000000 by omega)
    go_enter Tryd.func3, Tryd.ntmps3
    go_wp2_with fail
    refine (ksum_any A l c w HC.out hl HR.out HA.out).mono ?_
    rintro e w1 ⟨rfl, hk1⟩
    obtain ⟨x, hx⟩ : ∃ x, x = outK (absAll beginK l) 6 32 := ⟨_, rfl⟩
    have HXL := Lib.hid (show x.length = 32 by rw [hx]; exact outK_len _ _ _)
    have HX := Lib.hid hx
    rw [← hx]
    have fe := fun z => eq_print z x HXL.out
    have fg := fun y1 y2 z => run_eqGuard_arr (P := Tryd.prog) z guard_pr .eql y1 y2 (encB x).toArray (encB x).toArray
    have HI := Lib.hid (show (Tryd.prog.info? 25).map (·.size) = some (encB x).length by rw [length_encB, HXL.out]; exact info_kpr)
    have HON := Lib.hid (encB_one x)
    have HCL := Lib.hid (show (encB (List.replicate 32 0)).length = (encB x).length by rw [length_encB, length_encB, HXL.out, List.length_replicate])
    obtain ⟨cs, hcs⟩ : ∃ cs, cs = encB x := ⟨_, rfl⟩
    have HCS := Lib.hid hcs
    rw [← hcs] at fe fg HI HON HCL ⊢
    have HI2 := Lib.hid (show (Tryd.prog.info? 25).map (·.size) = some cs.toArray.size by rw [List.size_toArray]; exact HI.out)
    have HK1 := Lib.hid hk1
    clear hx hcs hk1
    obtain ⟨g, hg⟩ : ∃ g, g = w1.heap.size := ⟨_, rfl⟩
    have HGW := Lib.hid (show w.heap.size ≤ g by rw [hg]; exact HK1.out.size)
    have HG := Lib.hid hg
    clear hg
    go_wp2_with (refine wpList_store_rowK rfl 25 (.tmp 3) (.tmp 9) rfl w1.heap.size cs (encB (List.replicate 32 0)) 25 rfl rfl (by rw [zero32k]; exact heap_alloc_new _ _) HCL.out HI.out HON.out ?_
                 intro w2 h2 hk2
                 have H2 := Lib.hid (show w2.heap[g]? = some (.cells cs.toArray 25 (0, 0)) ∧ Keeps [] w w2 from ⟨by rw [HG.out]; exact h2.out, (HK1.out.alloc _).trans hk2 (fun t ht => .inr (by simp at ht; have := HGW.out; rw [HG.out] at this; omega))⟩)
                 clear h2 hk2
                 rw [← HG.out])
    refine seq_start (by kernel_rfl) (fun z => z.heap[g]? = some (.cells cs.toArray 25 (0, 0))) 15 [0, 1, 2, 3, 4, 5, 6, 7, 8, 9, 10, 11, 12, 13, 14] rfl (H2.out.1) (fun hS => ?_)
    have HV := Lib.hid (show w2.drew.heap[g]? = some (.cells cs.toArray 25 (0, 0)) ∧ Keeps [] w w2.drew from ⟨H2.out.1, H2.out.2.drew⟩)
    clear H2
    generalize w2.drew = V at HV hS ⊢
    refine seq_take (v := .agg cs.toArray) rfl (by kernel_rfl) (by kernel_rfl) (by kernel_rfl) ?_ (by assumption) ?_
    · exact yieldsIf_load_mid (by rfl) 25 (.tmp 3) (by rfl) g 0 (by rfl) cs _ (fun z hz => rangeAt_row2 hz) Tryd.underlying25 rfl HI.out
    simp only [Act.put, List.setIfInBounds_toArray, List.set_cons_zero, List.set_cons_succ]
    refine seq_take (v := ?_) rfl (by kernel_rfl) (by kernel_rfl) (by kernel_rfl) (Or.inl ⟨by rfl, fun w' hSw => ?_⟩) (by assumption) ?_
    rotate_left
    · go_simp
      with_reducible rfl
    simp only [Act.put, List.setIfInBounds_toArray, List.set_cons_zero, List.set_cons_succ]
    refine seq_do rfl (by kernel_rfl) (by rfl) (fun K hK => ?_)
    go_simp
    refine (refsum_any A l c _ HLB.out (HR.out.keeps0 HV.out.2)).mono ?_
    rintro e w3 ⟨rfl, hk3⟩
    rw [← HX.out, ← HCS.out]
    have H3 := Lib.hid (show w3.heap[g]? = some (.cells cs.toArray 25 (0, 0)) ∧ Keeps [] w w3 from ⟨(hk3.block g (lt_of_block HV.out.1) (by simp)).trans HV.out.1, HV.out.2.trans hk3 (by simp)⟩)
    clear hk3 HV
    refine hK.out (fun z => z.heap[g]? = some (.cells cs.toArray 25 (0, 0))) _ _ (fun _ h => h) H3.out.1 (fun hS => ?_)
    refine seq_take (v := .bool true) rfl (by kernel_rfl) (by kernel_rfl) (by kernel_rfl) ?_ (by assumption) ?_
    · exact yieldsIf_eqv (by rfl) 25 (.tmp 10) (.tmp 12) (by rfl) (.agg cs.toArray) (.agg cs.toArray) _ (by rfl) (by rfl) fe fg
    simp only [Act.put, List.setIfInBounds_toArray, List.set_cons_zero, List.set_cons_succ]
    refine seq_take (v := ?_) rfl (by kernel_rfl) (by kernel_rfl) (by kernel_rfl) (Or.inl ⟨by rfl, fun w' hSw => ?_⟩) (by assumption) ?_
    rotate_left
    · go_simp
      with_reducible rfl
    simp only [Act.put, List.setIfInBounds_toArray, List.set_cons_zero, List.set_cons_succ]
    refine seq_take (v := .agg cs.toArray) rfl (by kernel_rfl) (by kernel_rfl) (by kernel_rfl) ?_ (by assumption) ?_
    · exact yieldsIf_load_mid (by rfl) 25 (.tmp 3) (by rfl) g 0 (by rfl) cs _ (fun z hz => rangeAt_row2 hz) Tryd.underlying25 rfl HI.out
    simp only [Act.put, List.setIfInBounds_toArray, List.set_cons_zero, List.set_cons_succ]
    iterate 1 (refine seq_later ?_; simp only [List.cons_append, List.nil_append])
    refine seq_take (v := .agg cs.toArray) rfl (by kernel_rfl) (by kernel_rfl) (by kernel_rfl) ?_ (by assumption) ?_
    · exact yieldsIf_load_mid (by rfl) 25 (.tmp 3) (by rfl) g 0 (by rfl) cs _ (fun z hz => rangeAt_row2 hz) Tryd.underlying25 rfl HI.out
    simp only [Act.put, List.setIfInBounds_toArray, List.set_cons_zero, List.set_cons_succ]
    iterate 7 (refine seq_later ?_; simp only [List.cons_append, List.nil_append])
    refine seq_do rfl (by kernel_rfl) (by rfl) (fun K hK => ?_)
    go_simp
    rw [HCS.out]
    refine (text_any x _ HXL.out).mono ?_
    rintro e w4 ⟨rfl, hk4⟩
    rw [← HCS.out]
    have H4 := Lib.hid (show w4.heap[g]? = some (.cells cs.toArray 25 (0, 0)) ∧ Keeps [] w w4 from ⟨(hk4.block g (lt_of_block H3.out.1) (by simp)).trans H3.out.1, H3.out.2.trans hk4 (by simp)⟩)
    clear hk4 H3
    obtain ⟨tx, htx⟩ : ∃ tx, tx = hexAll x := ⟨_, rfl⟩
    rw [← htx]
    have HTX := Lib.hid htx
    clear htx
    refine hK.out (fun z => z.heap[g]? = some (.cells cs.toArray 25 (0, 0))) _ _ (fun _ h => h) H4.out.1 (fun hS => ?_)
    refine seq_do rfl (by kernel_rfl) (by rfl) (fun K hK => ?_)
    go_simp
    rw [HCS.out]
    refine (reftext_any x _ HXL.out).mono ?_
    rintro e w5 ⟨rfl, hk5⟩
    rw [← HCS.out, ← HTX.out]
    have H5 := Lib.hid (show w5.heap[g]? = some (.cells cs.toArray 25 (0, 0)) ∧ Keeps [] w w5 from ⟨(hk5.block g (lt_of_block H4.out.1) (by simp)).trans H4.out.1, H4.out.2.trans hk5 (by simp)⟩)
    clear hk5 H4
    refine hK.out (fun z => z.heap[g]? = some (.cells cs.toArray 25 (0, 0))) _ _ (fun _ h => h) H5.out.1 (fun hS => ?_)
    refine seq_take (v := ?_) rfl (by kernel_rfl) (by kernel_rfl) (by kernel_rfl) (Or.inl ⟨by rfl, fun w' hSw => ?_⟩) (by assumption) ?_
    rotate_left
    · go_simp
      with_reducible rfl
    simp only [Act.put, List.setIfInBounds_toArray, List.set_cons_zero, List.set_cons_succ]
    refine seq_take (v := ?_) rfl (by kernel_rfl) (by kernel_rfl) (by kernel_rfl) (Or.inl ⟨by rfl, fun w' hSw => ?_⟩) (by assumption) ?_
    rotate_left
    · go_simp
      with_reducible rfl
    simp only [Act.put, List.setIfInBounds_toArray, List.set_cons_zero, List.set_cons_succ]
    refine seq_take (v := ?_) rfl (by kernel_rfl) (by kernel_rfl) (by kernel_rfl) (Or.inl ⟨by rfl, fun w' hSw => ?_⟩) (by assumption) ?_
    rotate_left
    · go_simp
      with_reducible rfl
    simp only [Act.put, List.setIfInBounds_toArray, List.set_cons_zero, List.set_cons_succ]
    refine seq_do rfl (by kernel_rfl) (by rfl) (fun K hK => ?_)
    go_simp
    refine (sure_any w5 (HC.out.keeps H5.out.2 (by simp))).mono ?_
    rintro e w6 ⟨rfl, hk6⟩
    have H6 := Lib.hid (show w6.heap[g]? = some (.cells cs.toArray 25 (0, 0)) ∧ Keeps [] w w6 from ⟨(hk6.block g (lt_of_block H5.out.1) (by simp)).trans H5.out.1, H5.out.2.trans hk6 (by simp)⟩)
    clear hk6 H5
    refine hK.out (fun z => z.heap[g]? = some (.cells cs.toArray 25 (0, 0))) _ _ (fun _ h => h) H6.out.1 (fun hS => ?_)
    refine seq_take (v := ?_) rfl (by kernel_rfl) (by kernel_rfl) (by kernel_rfl) (Or.inl ⟨by rfl, fun w' hSw => ?_⟩) (by assumption) ?_
    rotate_left
    · go_simp
      with_reducible rfl
    simp only [Act.put, List.setIfInBounds_toArray, List.set_cons_zero, List.set_cons_succ]
    refine seq_take (v := ?_) rfl (by kernel_rfl) (by kernel_rfl) (by kernel_rfl) (Or.inl ⟨by rfl, fun w' hSw => ?_⟩) (by assumption) ?_
    rotate_left
    · go_simp
      with_reducible rfl
    simp only [Act.put, List.setIfInBounds_toArray, List.set_cons_zero, List.set_cons_succ]
    refine seq_done (by kernel_rfl) ?_
    all_goals skip
    go_wp2_with fail
    go_ret
    exact ⟨rfl, H6.out.2⟩
theorem sums_row (A : Option Addr) (l : List UInt8) (c : Nat) (w : World) (hc : Con w) (hl : l.length ≤ 140737488351232) (hr : RdB w A l) :
    Calls Tryd.prog 3 #[.slice A l.length c] w fun e w' => e = .returned (.bool true) ∧ Below w.heap.size w w' :=
  (sums_any A l c w hc hl hr (fun a ha hp => Rd.lt hr (by simpa using hp) ha)).mono fun _ _ h => ⟨h.1, h.2.below (Nat.le_refl _) (by simp)⟩
end Go.Proofs.YtccacdfkdkiaeaaDoor
