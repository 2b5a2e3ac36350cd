/- A sum asked for: contracts. -/
import Derived.Test.YtomleanoofoejaaDoorKecOut
import Derived.Test.YtomleanoofoejaaDoorRegion
namespace Go.Proofs.YtomleanoofoejaaDoor
open Go.RowKit

theorem info_kpr : (Tryd.prog.info? 25).map (·.size) = some 32 := by kernel_rfl
theorem infoB1k : (Tryd.prog.info? 5).map (·.size) = some 1 := by kernel_rfl
theorem zero32k : (#[.int .u8 0, .int .u8 0, .int .u8 0, .int .u8 0, .int .u8 0, .int .u8 0, .int .u8 0, .int .u8 0, .int .u8 0, .int .u8 0, .int .u8 0, .int .u8 0, .int .u8 0, .int .u8 0, .int .u8 0, .int .u8 0, .int .u8 0, .int .u8 0, .int .u8 0, .int .u8 0, .int .u8 0, .int .u8 0, .int .u8 0, .int .u8 0, .int .u8 0, .int .u8 0, .int .u8 0, .int .u8 0, .int .u8 0, .int .u8 0, .int .u8 0, .int .u8 0] : Array Value) = (encB (List.replicate 32 0)).toArray := by rfl
def SumP (xs : List UInt8) (w : World) (e : Ending) (w' : World) : Prop := e = .returned (.agg (encB xs).toArray) ∧ Keeps [] w w'

attribute [local irreducible] turnK outK
set_option maxHeartbeats 2000000 in
theorem stsum_nil (w : World) : Calls Tryd.prog 25 #[.pointer none] w (SumP (List.replicate 32 0) w) := by
  obtain ⟨z, hz⟩ : ∃ z : List UInt8, z = List.replicate 32 0 := ⟨_, rfl⟩
  have HZ := Lib.hid (show (#[.int .u8 0, .int .u8 0, .int .u8 0, .int .u8 0, .int .u8 0, .int .u8 0, .int .u8 0, .int .u8 0, .int .u8 0, .int .u8 0, .int .u8 0, .int .u8 0, .int .u8 0, .int .u8 0, .int .u8 0, .int .u8 0, .int .u8 0, .int .u8 0, .int .u8 0, .int .u8 0, .int .u8 0, .int .u8 0, .int .u8 0, .int .u8 0, .int .u8 0, .int .u8 0, .int .u8 0, .int .u8 0, .int .u8 0, .int .u8 0, .int .u8 0, .int .u8 0] : Array Value) = (encB z).toArray by rw [hz]; exact zero32k)
  have HI := Lib.hid (show (Tryd.prog.info? 25).map (·.size) = some (encB z).length by rw [hz]; exact info_kpr)
  have HI2 := Lib.hid (show (Tryd.prog.info? 25).map (·.size) = some (encB z).toArray.size by rw [List.size_toArray]; exact HI.out)
  rw [← hz]
  clear hz
  go_enter Tryd.func25, Tryd.ntmps25
  go_wp2_with (first
    | (refine wpList_load_row rfl 25 (.tmp 3) rfl (w.heap.size + 1) rfl 25 (encB z).toArray (0, 0) _ (by rw [HZ.out]; exact heap_alloc2_new _ _ _) Tryd.underlying25 rfl HI2.out ?_)
    | (refine wpList_store_rowK rfl 25 (.tmp 2) (.tmp 10) rfl w.heap.size (encB z) (encB z) 25 rfl rfl (by rw [HZ.out]; exact heap_alloc2_old _ _ _) rfl HI.out (encB_one _) ?_; intro w4 h4 hk4))
  have h4' : w4.heap[w.heap.size]? = _ := h4.out
  refine bodyPost_ret (v := .agg (encB z).toArray) (results_cell_row Tryd.results25 _ _ w.heap.size 25 _ (0, 0) _ rfl h4' Tryd.underlying25 rfl HI2.out) rfl ?_
  exact ⟨rfl, (((Keeps.refl [] w).alloc _).alloc _).trans hk4 (fun t ht => .inr (by simp at ht; omega))⟩

set_option maxHeartbeats 2000000 in
theorem stsum_any (g : Nat) (s : List Nat × Nat) (w : World) (h : StA w g s) (hs : Wf 25 s.1 ∧ s.2 < 136) (hc : Con w) :
    Calls Tryd.prog 25 #[.pointer (some ⟨g, 0, none⟩)] w (SumP (outK s 6 32) w) := by
  have H := Lib.hid h
  have HS := Lib.hid hs
  have HC := Lib.hid hc
  clear h hs hc
  go_enter Tryd.func25, Tryd.ntmps25
  go_wp2_with fail
  rw [zero32k]
  obtain ⟨W, hW⟩ : ∃ W, W = (w.alloc (.cells (encB (List.replicate 32 0)).toArray 25)).alloc (.cells (encB (List.replicate 32 0)).toArray 25) := ⟨_, rfl⟩
  rw [← hW]
  have hb0 : W.heap[w.heap.size]? = some (.cells (encB (List.replicate 32 0)).toArray 25 (0, 0)) := by rw [hW]; exact heap_alloc2_old _ _ _
  have hb1 : W.heap[w.heap.size + 1]? = some (.cells (encB (List.replicate 32 0)).toArray 25 (0, 0)) := by rw [hW]; exact heap_alloc2_new _ _ _
  have hk : Keeps [] w W := by rw [hW]; exact ((Keeps.refl [] w).alloc _).alloc _
  have hsz : W.heap.size = w.heap.size + 2 := by rw [hW]; simp
  have B0 := Lib.hid hb0
  have B1 := Lib.hid hb1
  have HK := Lib.hid hk
  have SZ := Lib.hid hsz
  clear hW hb0 hb1 hk hsz
  refine seq_start (by kernel_rfl) (fun _ => True) 4 [0, 1, 2, 3] rfl (trivial) (fun hS => ?_)
  have HR := Lib.hid (show StA W.drew g s ∧ Con W.drew from ⟨H.out.keeps HK.out.drew (by simp), HC.out.keeps HK.out.drew (by simp)⟩)
  have HKd := Lib.hid HK.out.drew
  have B0d := Lib.hid (show W.drew.heap[w.heap.size]? = _ from B0.out)
  have B1d := Lib.hid (show W.drew.heap[w.heap.size + 1]? = _ from B1.out)
  have SZd := Lib.hid (show W.drew.heap.size = _ from SZ.out)
  generalize W.drew = V at *
  clear B0 B1 HK SZ H HC
  refine seq_take (v := ?_) rfl (by kernel_rfl) (by kernel_rfl) (by kernel_rfl) (Or.inl ⟨by rfl, fun w' hSw => ?_⟩) (by assumption) ?_
  rotate_left
  · go_simp
    with_reducible rfl
  simp only [Act.put, List.setIfInBounds_toArray, List.set_cons_zero, List.set_cons_succ]
  refine seq_take (v := ?_) rfl (by kernel_rfl) (by kernel_rfl) (by kernel_rfl) (Or.inl ⟨by rfl, fun w' hSw => ?_⟩) (by assumption) ?_
  rotate_left
  · go_simp
    with_reducible rfl
  simp only [Act.put, List.setIfInBounds_toArray, List.set_cons_zero, List.set_cons_succ]
  refine seq_do rfl (by kernel_rfl) (by rfl) (fun K hK => ?_)
  go_simp
  refine (out_any g s V HR.out.1 HS.out HR.out.2 6 32 (by decide) (by decide)).mono ?_
  rintro e w2 ⟨A2, c2, t, ht, rfl, ho, hn, hk⟩
  have HT := Lib.hid ht.out
  have HRD := Lib.hid ho.rd
  have B0e := Lib.hid ((hk.block w.heap.size (by rw [SZd.out]; omega) (by simp)).trans B0d.out)
  have B1e := Lib.hid ((hk.block (w.heap.size + 1) (by rw [SZd.out]; omega) (by simp)).trans B1d.out)
  have HK2 := Lib.hid (show Keeps [] w w2 from HKd.out.trans hk (by simp))
  have HL := Lib.hid (show w.heap.size + 2 ≤ w2.heap.size by have := hk.size; rw [SZd.out] at this; exact this)
  clear ht ho hn hk HKd
  refine hK.out (fun _ => True) _ _ (fun _ h => h) trivial (fun _ => ?_)
  refine seq_do rfl (by kernel_rfl) (by rfl) (fun K hK => ?_)
  refine op_copyB (.tmp 6) (.tmp 8) 35 35 5 rfl Tryd.underlying35 infoB1k (w.heap.size + 1) 0 32 32 rfl A2 c2 t rfl HRD.out (List.replicate 32 0) 25 B1e.out (by simp) ?_
  intro w3 h3 hk3
  refine hK.out (fun _ => True) _ _ (fun _ h => h) trivial (fun _ => ?_)
  refine seq_done (by kernel_rfl) ?_
  all_goals skip
  have hl32 : (outK s 6 32).length = 32 := outK_len _ _ _
  have hb3 : w3.heap[w.heap.size + 1]? = some (.cells (encB (outK s 6 32)).toArray 25 (0, 0)) := by
    rw [h3.out]
    have e2 : (List.replicate 32 (0 : UInt8)).take 0 ++ t.take 32 ++ (List.replicate 32 (0 : UInt8)).drop (0 + min t.length 32) = outK s 6 32 := by
      rw [HT.out, hl32, show (outK s 6 32).take 32 = outK s 6 32 from List.take_of_length_le (by omega), List.take_zero, List.nil_append, List.drop_eq_nil_of_le (by rw [List.length_replicate]; decide), List.append_nil]
    rw [e2]
  obtain ⟨cs, hcs⟩ : ∃ cs, cs = outK s 6 32 := ⟨_, rfl⟩
  rw [← hcs] at hb3 hl32
  have B1f := Lib.hid hb3
  have B0f := Lib.hid ((hk3.block w.heap.size (by have := HL.out; omega) (by simp)).trans B0e.out)
  have HI := Lib.hid (show (Tryd.prog.info? 25).map (·.size) = some (encB cs).length by rw [length_encB, hl32]; exact info_kpr)
  have HI2 := Lib.hid (show (Tryd.prog.info? 25).map (·.size) = some (encB cs).toArray.size by rw [List.size_toArray]; exact HI.out)
  have HCS := Lib.hid (And.intro hl32 hcs)
  have K3 := Lib.hid hk3
  clear h3 hb3 hk3 hcs hl32
  go_wp2_with (first
    | (refine wpList_load_row rfl 25 (.tmp 3) rfl (w.heap.size + 1) rfl 25 (encB cs).toArray (0, 0) _ B1f.out Tryd.underlying25 rfl HI2.out ?_)
    | (refine wpList_store_rowK rfl 25 (.tmp 2) (.tmp 10) rfl w.heap.size (encB cs) (encB (List.replicate 32 0)) 25 rfl rfl B0f.out (by rw [length_encB, length_encB, HCS.out.1, List.length_replicate]) HI.out (encB_one _) ?_; intro w4 h4 hk4))
  have h4' : w4.heap[w.heap.size]? = _ := h4.out
  refine bodyPost_ret (v := .agg (encB cs).toArray) (results_cell_row Tryd.results25 _ _ w.heap.size 25 _ (0, 0) _ rfl h4' Tryd.underlying25 rfl HI2.out) rfl ?_
  exact ⟨by rw [HCS.out.2], (HK2.out.trans K3.out (fun t ht => .inr (by simp at ht; omega))).trans hk4 (fun t ht => .inr (by simp at ht; omega))⟩

set_option maxHeartbeats 2000000 in
theorem ksum_any (A : Option Addr) (l : List UInt8) (c : Nat) (w : World) (hc : Con w) (hl : l.length ≤ 140737488351232) (hr : RdB w A l) (hA : ∀ a, A = some a → 0 < l.length → a.block < w.heap.size) :
    Calls Tryd.prog 17 #[.slice A l.length c] w (SumP (outK (absAll beginK l) 6 32) w) := by
  obtain ⟨z, hz⟩ : ∃ z : List UInt8, z = List.replicate 32 0 := ⟨_, rfl⟩
  have HZ := Lib.hid (show (#[.int .u8 0, .int .u8 0, .int .u8 0, .int .u8 0, .int .u8 0, .int .u8 0, .int .u8 0, .int .u8 0, .int .u8 0, .int .u8 0, .int .u8 0, .int .u8 0, .int .u8 0, .int .u8 0, .int .u8 0, .int .u8 0, .int .u8 0, .int .u8 0, .int .u8 0, .int .u8 0, .int .u8 0, .int .u8 0, .int .u8 0, .int .u8 0, .int .u8 0, .int .u8 0, .int .u8 0, .int .u8 0, .int .u8 0, .int .u8 0, .int .u8 0, .int .u8 0] : Array Value) = (encB z).toArray by rw [hz]; exact zero32k)
  have HZL := Lib.hid (show z.length = 32 by rw [hz, List.length_replicate])
  clear hz
  obtain ⟨cs, hcs⟩ : ∃ cs, cs = outK (absAll beginK l) 6 32 := ⟨_, rfl⟩
  have HCS := Lib.hid (show cs.length = 32 by rw [hcs]; exact outK_len _ _ _)
  have HI := Lib.hid (show (Tryd.prog.info? 25).map (·.size) = some (encB cs).length by rw [length_encB, HCS.out]; exact info_kpr)
  have HI2 := Lib.hid (show (Tryd.prog.info? 25).map (·.size) = some (encB cs).toArray.size by rw [List.size_toArray]; exact HI.out)
  have HCC := Lib.hid hcs
  rw [← hcs]
  clear hcs
  have HC := Lib.hid hc
  have HR := Lib.hid hr
  have HA := Lib.hid hA
  clear hc hr hA
  go_enter Tryd.func17, Tryd.ntmps17
  go_wp2_with fail
  rw [HZ.out]
  obtain ⟨W, hW⟩ : ∃ W, W = w.alloc (.cells (encB z).toArray 25) := ⟨_, rfl⟩
  rw [← hW]
  have B0 := Lib.hid (show W.heap[w.heap.size]? = some (.cells (encB z).toArray 25 (0, 0)) by rw [hW]; exact heap_alloc_new _ _)
  have HK := Lib.hid (show Keeps [] w W by rw [hW]; exact (Keeps.refl [] w).alloc _)
  have SZ := Lib.hid (show W.heap.size = w.heap.size + 1 by rw [hW]; simp)
  clear hW
  refine (new_any W).mono ?_
  rintro e w1 ⟨g, rfl, hg, h1, hk1⟩
  have H1 := Lib.hid (show StA w1 g beginK ∧ Keeps [] w w1 ∧ w1.heap[w.heap.size]? = some (.cells (encB z).toArray 25 (0, 0)) ∧ w.heap.size < g from ⟨h1, HK.out.trans hk1 (by simp), (hk1.block w.heap.size (by rw [SZ.out]; omega) (by simp)).trans B0.out, by rw [SZ.out] at hg; omega⟩)
  clear h1 hk1 hg B0 HK SZ
  go_wp2_with fail
  refine (write_any g beginK A l c w1 H1.out.1 beginK_ok (HC.out.keeps H1.out.2.1 (by simp)) (by have := HC.out.lt; have := H1.out.2.2.2; omega) hl (HR.out.keeps0 H1.out.2.1) (fun a ha hp => by have := HA.out a ha hp; have := H1.out.2.2.2; omega)).mono ?_
  rintro e w2 ⟨rfl, h2, hk2⟩
  have H2 := Lib.hid (show StA w2 g (absAll beginK l) ∧ Keeps [] w w2 ∧ w2.heap[w.heap.size]? = some (.cells (encB z).toArray 25 (0, 0)) from ⟨h2, H1.out.2.1.trans hk2 (fun t ht => .inr (by have := H1.out.2.2.2; simp at ht; omega)), (hk2.block w.heap.size (lt_of_block H1.out.2.2.1) (by have := H1.out.2.2.2; simp; omega)).trans H1.out.2.2.1⟩)
  clear h2 hk2 H1
  go_wp2_with fail
  refine (stsum_any g _ w2 H2.out.1 (absAll_ok beginK_ok l) (HC.out.keeps H2.out.2.1 (by simp))).mono ?_
  rintro e w3 ⟨rfl, hk3⟩
  rw [← HCC.out]
  have B3 := Lib.hid ((hk3.block w.heap.size (lt_of_block H2.out.2.2) (by simp)).trans H2.out.2.2)
  have H3 := Lib.hid (H2.out.2.1.trans hk3 (by simp))
  clear hk3 H2
  go_wp2_with (refine wpList_store_rowK rfl 25 (.tmp 2) (.tmp 9) rfl w.heap.size (encB cs) (encB z) 25 rfl rfl B3.out (by rw [length_encB, length_encB, HCS.out, HZL.out]) HI.out (encB_one _) ?_; intro w4 h4 hk4)
  have h4' : w4.heap[w.heap.size]? = _ := h4.out
  refine bodyPost_ret (v := .agg (encB cs).toArray) (results_cell_row Tryd.results17 _ _ w.heap.size 25 _ (0, 0) _ rfl h4' Tryd.underlying25 rfl HI2.out) rfl ?_
  exact ⟨rfl, H3.out.trans hk4 (fun t ht => .inr (by simp at ht; omega))⟩

end Go.Proofs.YtomleanoofoejaaDoor
