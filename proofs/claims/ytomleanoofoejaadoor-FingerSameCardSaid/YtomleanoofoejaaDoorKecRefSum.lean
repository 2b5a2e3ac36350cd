/- The document's sum and shake: contracts. -/
import Derived.Test.YtomleanoofoejaaDoorKecRefOut
import Derived.Test.YtomleanoofoejaaDoorKecSum
import Derived.Test.YtomleanoofoejaaDoorStore
namespace Go.Proofs.YtomleanoofoejaaDoor
open Go.RowKit
attribute [local irreducible] turnK absAll sqzTo endK padK outK

set_option maxHeartbeats 4000000 in
theorem krefsum_any (A : Option Addr) (l : List UInt8) (c : Nat) (w : World) (hl : l.length ≤ 1000000) (hr : RdB w A l) :
    Calls Tryd.prog 12 #[.slice A l.length c] w (SumP (outK (absAll beginK l) 6 32) w) := by
  obtain ⟨z, hz⟩ : ∃ z : List UInt8, z = List.replicate 32 0 := ⟨_, rfl⟩
  have HZ := Lib.hid (show (#[.int .u8 0, .int .u8 0, .int .u8 0, .int .u8 0, .int .u8 0, .int .u8 0, .int .u8 0, .int .u8 0, .int .u8 0, .int .u8 0, .int .u8 0, .int .u8 0, .int .u8 0, .int .u8 0, .int .u8 0, .int .u8 0, .int .u8 0, .int .u8 0, .int .u8 0, .int .u8 0, .int .u8 0, .int .u8 0, .int .u8 0, .int .u8 0, .int .u8 0, .int .u8 0, .int .u8 0, .int .u8 0, .int .u8 0, .int .u8 0, .int .u8 0, .int .u8 0] : Array Value) = (encB z).toArray by rw [hz]; exact zero32k)
  have HZL := Lib.hid (show z.length = 32 by rw [hz, List.length_replicate])
  clear hz
  obtain ⟨cs, hcs⟩ : ∃ cs, cs = outK (absAll beginK l) 6 32 := ⟨_, rfl⟩
  have HCS := Lib.hid (show cs.length = 32 by rw [hcs]; exact outK_len _ _ _)
  have HI := Lib.hid (show (Tryd.prog.info? 25).map (·.size) = some (encB cs).length by rw [length_encB, HCS.out]; exact info_kpr)
  have HI2 := Lib.hid (show (Tryd.prog.info? 25).map (·.size) = some (encB cs).toArray.size by rw [List.size_toArray]; exact HI.out)
  have HCC := Lib.hid hcs
  rw [← hcs]
  clear hcs
  have HR := Lib.hid hr
  clear hr
  go_enter Tryd.func12, Tryd.ntmps12
  go_wp2_with fail
  rw [HZ.out]
  obtain ⟨W, hW⟩ : ∃ W, W = (w.alloc (.cells (encB z).toArray 25)).alloc (.cells (encB z).toArray 25) := ⟨_, rfl⟩
  rw [← hW]
  have H0 := Lib.hid (show BB W w.heap.size 25 z ∧ BB W (w.heap.size + 1) 25 z ∧ Keeps [] w W ∧ W.heap.size = w.heap.size + 2 from by
    rw [hW]
    exact ⟨heap_alloc2_old _ _ _, heap_alloc2_new _ _ _, ((Keeps.refl [] w).alloc _).alloc _, by simp⟩)
  clear hW
  refine (refout_any A l c 6 32 W hl (HR.out.keeps0 H0.out.2.2.1) (by decide)).mono ?_
  rintro e w2 ⟨A2, c2, t, ht, rfl, ho, hn, hk⟩
  have HT := Lib.hid (show t = cs by rw [ht.out, HCC.out]; rfl)
  have HTL := Lib.hid (show t.length = 32 by rw [HT.out, HCS.out])
  have INV := Lib.hid (show BB w2 (w.heap.size + 1) 25 z ∧ BB w2 w.heap.size 25 z ∧ Keeps [] w w2 ∧ RdB w2 A2 t ∧ (∀ a, A2 = some a → w.heap.size + 2 ≤ a.block) from
    ⟨H0.out.2.1.keeps hk (by simp), H0.out.1.keeps hk (by simp), H0.out.2.2.1.trans hk (by simp), ho.rd, fun a ha => by have := hn a ha; rw [H0.out.2.2.2] at this; exact this⟩)
  clear ht ho hn hk H0
  go_wp2_with fail
  go_loopw [5] (fun i wr => ∃ (k : Nat) (x : List UInt8), k ≤ 32 ∧ i = .int .i64 k ∧ Hid (x.length = 32 ∧ x.take k = t.take k) ∧ Hid (BB wr (w.heap.size + 1) 25 x ∧ BB wr w.heap.size 25 z ∧ Keeps [] w wr ∧ RdB wr A2 t ∧ (∀ a, A2 = some a → w.heap.size + 2 ≤ a.block))) (fun i _ => 32 - (intOf i).toNat)
  case atStart => exact ⟨0, z, by omega, rfl, ⟨HZL.out, rfl⟩, INV.out⟩
  case round =>
    clear INV
    obtain ⟨k, x, hk, rfl, hx, hinv⟩ := hrel
    by_cases hlt : k < 32
    · have hi : (k : Int) < 32 := by omega
      have hkt : k < t.length := by rw [HTL.out]; exact hlt
      obtain ⟨ad, rfl, q1⟩ := hinv.out.2.2.2.1.at_ hkt
      have hkt' : (k : Int) < ((t.length : Nat) : Int) := by omega
      have q2 := hinv.out.1.cell k (by rw [hx.out.1]; exact hlt)
      have f2 := frozen_of_row wr (w.heap.size + 1) k _ _ hinv.out.1
      obtain ⟨b, hb⟩ : ∃ b, b = t[k] := ⟨_, rfl⟩
      rw [← hb] at q1
      have HB := Lib.hid hb
      have HKT := Lib.hid hkt
      clear hb
      go_wp2_with fail
      go_roundw
      case rel =>
        refine ⟨k + 1, x.set k b, by omega, by go_num, ⟨by rw [List.length_set]; exact hx.out.1, ?_⟩, hinv.out.1.set k b, hinv.out.2.1.keeps (Keeps.at_ _) (by simp), hinv.out.2.2.1.setCell (.inr (by simp)) _, Rd.keeps hinv.out.2.2.2.1 (Keeps.at_ _) (fun a ha _ => by have := hinv.out.2.2.2.2 a ha; simp; omega), hinv.out.2.2.2.2⟩
        have hkx : k < x.length := by rw [hx.out.1]; exact hlt
        rw [List.take_add_one, List.take_add_one, List.getElem?_set_self hkx, List.take_set_of_le (Nat.le_refl k), hx.out.2, List.getElem?_eq_getElem HKT.out, HB.out]
      case measure => simp [intOf]; omega
    · have hi : ¬ (k : Int) < 32 := by omega
      have HX := Lib.hid (show x = cs by
        have h2 := hx.out.2
        rw [show k = 32 by omega, List.take_of_length_le (by rw [hx.out.1]; exact Nat.le_refl _), List.take_of_length_le (by rw [HTL.out]; exact Nat.le_refl _), HT.out] at h2
        exact h2)
      have B1 := Lib.hid (show wr.heap[w.heap.size + 1]? = some (.cells (encB cs).toArray 25 (0, 0)) by rw [← HX.out]; exact hinv.out.1)
      have B0 := Lib.hid (show wr.heap[w.heap.size]? = some (.cells (encB z).toArray 25 (0, 0)) from hinv.out.2.1)
      have HK := Lib.hid hinv.out.2.2.1
      clear hlt hk hinv
      go_wp2_with (first
        | (refine wpList_load_row rfl 25 (.tmp 3) rfl (w.heap.size + 1) rfl 25 (encB cs).toArray (0, 0) _ B1.out Tryd.underlying25 rfl HI2.out ?_)
        | (refine wpList_store_rowK rfl 25 (.tmp 2) (.tmp 18) rfl w.heap.size (encB cs) (encB z) 25 rfl rfl B0.out (by rw [length_encB, length_encB, HCS.out, HZL.out]) HI.out (encB_one _) ?_; intro w4 h4 hk4))
      have h4' : w4.heap[w.heap.size]? = _ := h4.out
      refine bodyPost_ret (v := .agg (encB cs).toArray) (results_cell_row Tryd.results12 _ _ w.heap.size 25 _ (0, 0) _ rfl h4' Tryd.underlying25 rfl HI2.out) rfl ?_
      exact ⟨rfl, HK.out.trans hk4 (fun t ht => .inr (by simp at ht; omega))⟩
end Go.Proofs.YtomleanoofoejaaDoor
