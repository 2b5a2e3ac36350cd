/- What must come whatever the input is, and a fingerprint's text: contracts. -/
import Derived.Test.YtomleanoofoejaaDoorFingOf
import Derived.Test.YtomleanoofoejaaDoorEqPr
import Derived.Test.YtomleanoofoejaaDoorWant
namespace Go.Proofs.YtomleanoofoejaaDoor
open Go.RowKit
attribute [local irreducible] turnK outK absAll hexAll endK sqzTo hmore

set_option maxHeartbeats 1000000 in
theorem ftext_any (x : List UInt8) (w : World) (hx : x.length = 32) :
    Calls Tryd.prog 13 #[.agg (encB x).toArray] w fun e w' => e = .returned (.string (strB (hexAll x))) ∧ Keeps [] w w' := by
  have HI2 := Lib.hid (show (Tryd.prog.info? 25).map (·.size) = some (encB x).toArray.size by rw [List.size_toArray, length_encB, hx]; exact infoPrF)
  have HX := Lib.hid hx
  obtain ⟨cs, hcs⟩ : ∃ cs, cs = (encB x).toArray := ⟨_, rfl⟩
  rw [← hcs] at HI2 ⊢
  have HCS := Lib.hid hcs
  clear hx hcs
  go_enter Tryd.func13, Tryd.ntmps13
  go_wp2_with (refine wpList_load_row rfl 25 (.tmp 1) rfl w.heap.size rfl 25 cs (0, 0) _ (heap_alloc_new _ _) Tryd.underlying25 rfl HI2.out ?_)
  rw [HCS.out]
  refine (text_any x _ HX.out).mono ?_
  rintro e w1 ⟨rfl, hk1⟩
  have H1 := Lib.hid (((Keeps.refl [] w).alloc _).trans hk1 (by simp))
  clear hk1
  go_wp2_with fail
  go_ret
  exact ⟨rfl, H1.out⟩

def b7 : List UInt8 := 7 :: List.replicate 63 0
def b0 : List UInt8 := List.replicate 64 0
def x7 : List UInt8 := 7 :: List.replicate 31 0
theorem lit7 : (#[.int .u8 7, .int .u8 0, .int .u8 0, .int .u8 0, .int .u8 0, .int .u8 0, .int .u8 0, .int .u8 0, .int .u8 0, .int .u8 0, .int .u8 0, .int .u8 0, .int .u8 0, .int .u8 0, .int .u8 0, .int .u8 0, .int .u8 0, .int .u8 0, .int .u8 0, .int .u8 0, .int .u8 0, .int .u8 0, .int .u8 0, .int .u8 0, .int .u8 0, .int .u8 0, .int .u8 0, .int .u8 0, .int .u8 0, .int .u8 0, .int .u8 0, .int .u8 0] : Array Value) = (encB x7).toArray := by rfl
theorem f7 : fpK 2 b7 = x7 := by rfl
set_option maxRecDepth 100000 in
set_option maxHeartbeats 2000000 in
theorem fsure_any (w : World) (hc : Con w) (ht : HT w) :
    Calls Tryd.prog 10 #[] w fun e w' => e = .returned (.bool true) ∧ Keeps [] w w' := by
  have HC := Lib.hid (And.intro hc ht)
  have HZ := Lib.hid (show (#[.int .u8 0, .int .u8 0, .int .u8 0, .int .u8 0, .int .u8 0, .int .u8 0, .int .u8 0, .int .u8 0, .int .u8 0, .int .u8 0, .int .u8 0, .int .u8 0, .int .u8 0, .int .u8 0, .int .u8 0, .int .u8 0, .int .u8 0, .int .u8 0, .int .u8 0, .int .u8 0, .int .u8 0, .int .u8 0, .int .u8 0, .int .u8 0, .int .u8 0, .int .u8 0, .int .u8 0, .int .u8 0, .int .u8 0, .int .u8 0, .int .u8 0, .int .u8 0] : Array Value) = (encB z32).toArray from zero32k)
  have HI := Lib.hid (show (Tryd.prog.info? 25).map (·.size) = some (encB x7).length from infoPrF)
  have HI2 := Lib.hid (show (Tryd.prog.info? 25).map (·.size) = some (encB x7).toArray.size by rw [List.size_toArray]; exact HI.out)
  have fe := fun v => eq_print v x7 rfl
  have fg := fun y1 y2 v => run_eqGuard_arr (P := Tryd.prog) v guard_pr .eql y1 y2 (encB x7).toArray (encB x7).toArray
  have HL := Lib.hid lit7
  obtain ⟨cs, hcs⟩ : ∃ cs, cs = encB x7 := ⟨_, rfl⟩
  rw [← hcs] at fe fg HI HI2 HL
  have HCS := Lib.hid hcs
  have HCL := Lib.hid (show (encB z32).length = cs.length by rw [hcs]; rfl)
  have HON := Lib.hid (show ∀ v ∈ cs, v.oneCell' = true by rw [hcs]; exact encB_one _)
  have fe' : ∀ v, (binOp .eql 25 (.agg cs.toArray) (.agg #[.int .u8 7, .int .u8 0, .int .u8 0, .int .u8 0, .int .u8 0, .int .u8 0, .int .u8 0, .int .u8 0, .int .u8 0, .int .u8 0, .int .u8 0, .int .u8 0, .int .u8 0, .int .u8 0, .int .u8 0, .int .u8 0, .int .u8 0, .int .u8 0, .int .u8 0, .int .u8 0, .int .u8 0, .int .u8 0, .int .u8 0, .int .u8 0, .int .u8 0, .int .u8 0, .int .u8 0, .int .u8 0, .int .u8 0, .int .u8 0, .int .u8 0, .int .u8 0])).run Tryd.prog v = .ok (.bool true) v := fun v => by rw [HL.out]; exact fe v
  have fg' : ∀ y1 y2 v, (eqGuard .eql 25 y1 y2 (.agg cs.toArray) (.agg #[.int .u8 7, .int .u8 0, .int .u8 0, .int .u8 0, .int .u8 0, .int .u8 0, .int .u8 0, .int .u8 0, .int .u8 0, .int .u8 0, .int .u8 0, .int .u8 0, .int .u8 0, .int .u8 0, .int .u8 0, .int .u8 0, .int .u8 0, .int .u8 0, .int .u8 0, .int .u8 0, .int .u8 0, .int .u8 0, .int .u8 0, .int .u8 0, .int .u8 0, .int .u8 0, .int .u8 0, .int .u8 0, .int .u8 0, .int .u8 0, .int .u8 0, .int .u8 0])).run Tryd.prog v = .ok () v := fun y1 y2 v => by rw [HL.out]; exact fg y1 y2 v
  clear hc ht hcs fe fg
  go_enter Tryd.func10, Tryd.ntmps10
  go_wp2_with fail
  refine (of_any 2 b7 w (by rfl) HC.out.1).mono ?_
  rintro e w1 ⟨rfl, hk1⟩
  rw [f7, ← HCS.out, show errV (ferr 2) = .nilIface from rfl]
  have HK1 := Lib.hid hk1
  clear hk1
  obtain ⟨g, hg⟩ : ∃ g, g = w1.heap.size := ⟨_, rfl⟩
  have HG := Lib.hid hg
  clear hg
  go_wp2_with (refine wpList_store_rowK rfl 25 (.tmp 1) (.tmp 8) rfl w1.heap.size cs (encB z32) 25 rfl rfl (by rw [HZ.out]; exact heap_alloc_new _ _) HCL.out HI.out HON.out ?_
               intro w2 h2 hk2
               have H2 := Lib.hid (show w2.heap[g]? = some (.cells cs.toArray 25 (0, 0)) ∧ Keeps [] w w2 from ⟨by rw [HG.out]; exact h2.out, (HK1.out.alloc _).trans hk2 (fun t ht => .inr (by simp at ht; have := HK1.out.size; omega))⟩)
               clear h2 hk2
               rw [← HG.out])
  refine (of_any 9 b0 w2 (by rfl) (HC.out.1.keeps H2.out.2 (by simp))).mono ?_
  rintro e w3 ⟨rfl, hk3⟩
  rw [show fpK 9 b0 = z32 from rfl, show errV (ferr 9) = .iface 44 (.int .i64 1) from rfl]
  have H3 := Lib.hid (show w3.heap[g]? = some (.cells cs.toArray 25 (0, 0)) ∧ Keeps [] w w3 from ⟨(hk3.block g (lt_of_block H2.out.1) (by simp)).trans H2.out.1, H2.out.2.trans hk3 (by simp)⟩)
  have HIZ := Lib.hid (show (Tryd.prog.info? 25).map (·.size) = some (encB z32).length from infoPrF)
  clear hk3
  go_wp2_with (first
    | (refine wpList_unguard (by rfl) (wpList_load_row rfl 25 (.tmp 1) rfl g rfl 25 cs.toArray (0, 0) _ H4.out.1 Tryd.underlying25 rfl HI2.out ?_))
    | (refine wpList_store_rowK rfl 25 (.tmp 3) (.tmp 13) rfl w3.heap.size (encB z32) (encB z32) 25 rfl rfl (by rw [HZ.out]; exact heap_alloc_new _ _) rfl HIZ.out (encB_one _) ?_
       intro w4 h4 hk4
       have H4 := Lib.hid (show w4.heap[g]? = some (.cells cs.toArray 25 (0, 0)) ∧ Keeps [] w w4 from by
         have hg3 : g < w3.heap.size := lt_of_block H3.out.1
         refine ⟨?_, (H3.out.2.alloc _).trans hk4 (fun t ht => .inr (by simp at ht; have := H3.out.2.size; omega))⟩
         rw [hk4.block g (by simp; omega) (by simp; omega), heap_alloc_old _ _ (h := hg3)]
         exact H3.out.1)
       clear h4 hk4))
  refine (num_err 1 _ (HC.out.2.keeps H4.out.2 (by simp))).mono ?_
  rintro e w5 ⟨rfl, hk5⟩
  go_wp2_with fail
  go_ret
  exact ⟨rfl, H4.out.2.trans hk5 (by simp)⟩
end Go.Proofs.YtomleanoofoejaaDoor
