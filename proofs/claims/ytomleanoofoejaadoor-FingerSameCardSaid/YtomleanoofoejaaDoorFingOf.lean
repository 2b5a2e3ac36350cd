/- A block's fingerprint: the program's contract. -/
import Derived.Test.YtomleanoofoejaaDoorFingLess
import Derived.Deep.DeepCutAuto
namespace Go.Proofs.YtomleanoofoejaaDoor
open Go.RowKit
attribute [local irreducible] turnK outK absAll hexAll endK sqzTo hmore

def z32 : List UInt8 := List.replicate 32 0
theorem z32_len : z32.length = 32 := by rfl
def weakK (b : List UInt8) : List UInt8 := (((z32.set 0 (UInt8.ofNat ((hmore 1 b).toNat / 16777216))).set 1 (UInt8.ofNat ((hmore 1 b).toNat / 65536))).set 2 (UInt8.ofNat ((hmore 1 b).toNat / 256))).set 3 (UInt8.ofNat (hmore 1 b).toNat)
def fpK (kind : Int) (b : List UInt8) : List UInt8 := if kind = 0 then outK (absAll beginK b) 6 32 else if kind = 1 then weakK b else if kind = 2 then z32.set 0 (b.getD 0 0) else z32
def ferr (kind : Int) : Int := if kind = 0 then 0 else if kind = 1 then 0 else if kind = 2 then 0 else if kind = 3 then 0 else 1
theorem fpK_len (kind : Int) (b : List UInt8) : (fpK kind b).length = 32 := by
  unfold fpK weakK
  split
  · exact outK_len _ _ _
  · split
    · simp [z32_len]
    · split <;> simp [z32_len]
def FpP (r : List UInt8) (ev : Value) (w : World) (e : Ending) (w' : World) : Prop := e = .returned (.tuple #[.agg (encB r).toArray, ev]) ∧ Keeps [] w w'
theorem infoBlkF : (Tryd.prog.info? 23).map (·.size) = some 64 := by kernel_rfl
/-- The three blocks: the argument's, the result's, the print's. -/
def Fb (w V : World) (b r p : List UInt8) : Prop := BB V w.heap.size 23 b ∧ BB V (w.heap.size + 1) 25 r ∧ BB V (w.heap.size + 2) 25 p ∧ Keeps [] w V
theorem Fb.keeps {w V V' : World} {b r p : List UInt8} (h : Fb w V b r p) (hk : Keeps [] V V') : Fb w V' b r p := ⟨h.1.keeps hk (by simp), h.2.1.keeps hk (by simp), h.2.2.1.keeps hk (by simp), h.2.2.2.trans hk (by simp)⟩
theorem Fb.size {w V : World} {b r p : List UInt8} (h : Fb w V b r p) : w.heap.size + 2 < V.heap.size := lt_of_block h.2.2.1
theorem Fb.start (w : World) (b : List UInt8) : Fb w (((w.alloc (.cells (encB b).toArray 23)).alloc (.cells (encB z32).toArray 25)).alloc (.cells (encB z32).toArray 25)) b z32 z32 := by
  refine ⟨?_, ?_, ?_, ((((Keeps.refl [] w).alloc _).alloc _).alloc _)⟩
  · show _ = _
    rw [heap_alloc_old _ _ (h := by simp; omega), heap_alloc2_old]
  · show _ = _
    rw [heap_alloc_old _ _ (h := by simp), heap_alloc2_new]
  · show _ = _
    have h := heap_alloc_new ((w.alloc (.cells (encB b).toArray 23)).alloc (.cells (encB z32).toArray 25)) (.cells (encB z32).toArray 25)
    simpa using h

set_option maxHeartbeats 2000000 in
theorem of_strong (b : List UInt8) (w : World) (hb : b.length = 64) (hc : Con w) :
    Calls Tryd.prog 7 #[.int .i64 0, .agg (encB b).toArray] w (FpP (fpK 0 b) .nilIface w) := by
  have HC := Lib.hid hc
  clear hc
  have HB := Lib.hid hb
  have HZ := Lib.hid (show (#[.int .u8 0, .int .u8 0, .int .u8 0, .int .u8 0, .int .u8 0, .int .u8 0, .int .u8 0, .int .u8 0, .int .u8 0, .int .u8 0, .int .u8 0, .int .u8 0, .int .u8 0, .int .u8 0, .int .u8 0, .int .u8 0, .int .u8 0, .int .u8 0, .int .u8 0, .int .u8 0, .int .u8 0, .int .u8 0, .int .u8 0, .int .u8 0, .int .u8 0, .int .u8 0, .int .u8 0, .int .u8 0, .int .u8 0, .int .u8 0, .int .u8 0, .int .u8 0] : Array Value) = (encB z32).toArray from zero32k)
  obtain ⟨bs, hbs⟩ : ∃ bs, bs = (encB b).toArray := ⟨_, rfl⟩
  rw [← hbs]
  have HBS := Lib.hid hbs
  have HL := Lib.hid (fpK_len 0 b)
  have HI := Lib.hid (show (Tryd.prog.info? 25).map (·.size) = some (encB (fpK 0 b)).length by rw [length_encB, fpK_len]; exact infoPrF)
  have HI2 := Lib.hid (show (Tryd.prog.info? 25).map (·.size) = some (encB (fpK 0 b)).toArray.size by rw [List.size_toArray]; exact HI.out)
  obtain ⟨x, hx⟩ : ∃ x, x = fpK 0 b := ⟨_, rfl⟩
  rw [← hx] at HL HI HI2 ⊢
  have HX := Lib.hid hx
  clear hb hbs hx
  go_enter Tryd.func7, Tryd.ntmps7
  go_upto_region 2 with fail
  rw [HZ.out]
  obtain ⟨W, hW⟩ : ∃ W, W = ((w.alloc (.cells bs 23)).alloc (.cells (encB z32).toArray 25)).alloc (.cells (encB z32).toArray 25) := ⟨_, rfl⟩
  rw [← hW]
  have HW := Lib.hid (show Fb w W b z32 z32 by rw [hW, HBS.out]; exact Fb.start w b)
  clear hW
  have HRD := Lib.hid (show RdB W (some ⟨w.heap.size, 0, none⟩) b from ⟨by simp, fun _ => ⟨_, rfl, fun j u hu => by rw [add_new, Nat.zero_add, cell_of_row _ _ _ _ _ _ HW.out.1, List.getElem?_toArray]; exact hu⟩⟩)
  have HSUM := Lib.hid (ksum_any (some ⟨w.heap.size, 0, none⟩) b 64 W (HC.out.keeps HW.out.2.2.2 (by simp)) (by rw [HB.out]; decide) HRD.out (fun a ha _ => by cases ha; have := HW.out.size; simp; omega))
  rw [HB.out] at HSUM
  go_wp2_with (refine wpList_secArr rfl 23 (.tmp 3) none none none rfl Tryd.underlying23 infoB1f ⟨w.heap.size, 0, none⟩ 0 64 64 rfl .no .no .no (by decide) (by decide) (by decide) (by simp) ?_; rw [secA_zero])
  refine HSUM.out.mono ?_
  rintro e w1 ⟨rfl, hk1⟩
  rw [show outK (absAll beginK b) 6 32 = x by rw [HX.out]; rfl]
  have HV := Lib.hid (HW.out.keeps hk1)
  have HK := Lib.hid HV.out.2.2.2
  clear HSUM hk1
  go_wp2_with (refine wpList_store_rowK rfl 25 (.tmp 4) (.tmp 14) rfl (w.heap.size + 1) (encB x) (encB z32) 25 rfl rfl HV.out.2.1 (by rw [length_encB, length_encB, HL.out, z32_len]) HI.out (encB_one _) ?_; intro w4 h4 hk4)
  have h4' : w4.heap[w.heap.size + 1]? = _ := h4.out
  refine bodyPost_ret (v := .tuple #[.agg (encB x).toArray, .nilIface]) (results_cell_tmp Tryd.results7 _ _ (w.heap.size + 1) 25 _ (0, 0) _ _ rfl rfl h4' Tryd.underlying25 rfl HI2.out) rfl ?_
  exact ⟨rfl, HK.out.trans hk4 (fun t ht => .inr (by simp at ht; omega))⟩
theorem weak_set (b : List UInt8) : weakK b = fpK 1 b := by rfl
set_option maxRecDepth 100000 in
set_option maxHeartbeats 4000000 in
theorem of_weak (b : List UInt8) (w : World) (hb : b.length = 64) :
    Calls Tryd.prog 7 #[.int .i64 1, .agg (encB b).toArray] w (FpP (fpK 1 b) .nilIface w) := by
  have HB := Lib.hid hb
  have HZ := Lib.hid (show (#[.int .u8 0, .int .u8 0, .int .u8 0, .int .u8 0, .int .u8 0, .int .u8 0, .int .u8 0, .int .u8 0, .int .u8 0, .int .u8 0, .int .u8 0, .int .u8 0, .int .u8 0, .int .u8 0, .int .u8 0, .int .u8 0, .int .u8 0, .int .u8 0, .int .u8 0, .int .u8 0, .int .u8 0, .int .u8 0, .int .u8 0, .int .u8 0, .int .u8 0, .int .u8 0, .int .u8 0, .int .u8 0, .int .u8 0, .int .u8 0, .int .u8 0, .int .u8 0] : Array Value) = (encB z32).toArray from zero32k)
  obtain ⟨bs, hbs⟩ : ∃ bs, bs = (encB b).toArray := ⟨_, rfl⟩
  rw [← hbs]
  have HBS := Lib.hid hbs
  have HL := Lib.hid (fpK_len 1 b)
  have HI := Lib.hid (show (Tryd.prog.info? 25).map (·.size) = some (encB (fpK 1 b)).length by rw [length_encB, fpK_len]; exact infoPrF)
  have HI2 := Lib.hid (show (Tryd.prog.info? 25).map (·.size) = some (encB (fpK 1 b)).toArray.size by rw [List.size_toArray]; exact HI.out)
  obtain ⟨x, hx⟩ : ∃ x, x = fpK 1 b := ⟨_, rfl⟩
  rw [← hx] at HL HI HI2 ⊢
  have HX := Lib.hid hx
  clear hb hbs hx
  go_enter Tryd.func7, Tryd.ntmps7
  go_upto_region 2 with fail
  rw [HZ.out]
  obtain ⟨W, hW⟩ : ∃ W, W = ((w.alloc (.cells bs 23)).alloc (.cells (encB z32).toArray 25)).alloc (.cells (encB z32).toArray 25) := ⟨_, rfl⟩
  rw [← hW]
  have HW := Lib.hid (show Fb w W b z32 z32 by rw [hW, HBS.out]; exact Fb.start w b)
  clear hW
  have HRD := Lib.hid (show RdB W (some ⟨w.heap.size, 0, none⟩) b from ⟨by simp, fun _ => ⟨_, rfl, fun j u hu => by rw [add_new, Nat.zero_add, cell_of_row _ _ _ _ _ _ HW.out.1, List.getElem?_toArray]; exact hu⟩⟩)
  have HSUM := Lib.hid (sum_any (some ⟨w.heap.size, 0, none⟩) b 64 W (by rw [HB.out]; decide) HRD.out)
  rw [HB.out] at HSUM
  have hm := hmore_range 1 b (by decide)
  obtain ⟨s, hs⟩ : ∃ s : Nat, hmore 1 b = (s : Int) := ⟨(hmore 1 b).toNat, by omega⟩
  have HXS := Lib.hid (show x = (((z32.set 0 (UInt8.ofNat (s / 16777216))).set 1 (UInt8.ofNat (s / 65536))).set 2 (UInt8.ofNat (s / 256))).set 3 (UInt8.ofNat s) by
    rw [HX.out, ← weak_set]; unfold weakK; rw [hs]; rfl)
  rw [hs] at HSUM hm
  obtain ⟨b0, hb0⟩ : ∃ c, c = UInt8.ofNat (s / 16777216) := ⟨_, rfl⟩
  obtain ⟨b1, hb1⟩ : ∃ c, c = UInt8.ofNat (s / 65536) := ⟨_, rfl⟩
  obtain ⟨b2, hb2⟩ : ∃ c, c = UInt8.ofNat (s / 256) := ⟨_, rfl⟩
  obtain ⟨b3, hb3⟩ : ∃ c, c = UInt8.ofNat s := ⟨_, rfl⟩
  rw [← hb0, ← hb1, ← hb2, ← hb3] at HXS
  obtain ⟨s0, hs0⟩ : ∃ n, n = s / 16777216 := ⟨_, rfl⟩
  obtain ⟨s1, hs1⟩ : ∃ n, n = s / 65536 := ⟨_, rfl⟩
  obtain ⟨s2, hs2⟩ : ∃ n, n = s / 256 := ⟨_, rfl⟩
  have h24 : Op.shift .shr .u32 (s : Int) .u64 24 = pure (.int .u32 (s0 : Int)) := by
    rw [shift_shr .u32 .u64 (s : Int) 24 (by decide) (by decide), hs0, show (2 : Int) ^ (24 : Int).toNat = 16777216 by rfl]; rfl
  have h16 : Op.shift .shr .u32 (s : Int) .u64 16 = pure (.int .u32 (s1 : Int)) := by
    rw [shift_shr .u32 .u64 (s : Int) 16 (by decide) (by decide), hs1, show (2 : Int) ^ (16 : Int).toNat = 65536 by rfl]; rfl
  have h8 : Op.shift .shr .u32 (s : Int) .u64 8 = pure (.int .u32 (s2 : Int)) := by
    rw [shift_shr .u32 .u64 (s : Int) 8 (by decide) (by decide), hs2, show (2 : Int) ^ (8 : Int).toNat = 256 by rfl]; rfl
  have c0 : IntKind.u8.wrap (s0 : Int) = (b0.toNat : Int) := by rw [hb0, ← hs0, UInt8.toNat_ofNat', IntKind.wrap_u8]; omega
  have c1 : IntKind.u8.wrap (s1 : Int) = (b1.toNat : Int) := by rw [hb1, ← hs1, UInt8.toNat_ofNat', IntKind.wrap_u8]; omega
  have c2 : IntKind.u8.wrap (s2 : Int) = (b2.toNat : Int) := by rw [hb2, ← hs2, UInt8.toNat_ofNat', IntKind.wrap_u8]; omega
  have c3 : IntKind.u8.wrap (s : Int) = (b3.toNat : Int) := by rw [hb3, UInt8.toNat_ofNat', IntKind.wrap_u8]; omega
  clear hs hb0 hb1 hb2 hb3 hs0 hs1 hs2
  go_wp2_with (refine wpList_secArr rfl 23 (.tmp 3) none none none rfl Tryd.underlying23 infoB1f ⟨w.heap.size, 0, none⟩ 0 64 64 rfl .no .no .no (by decide) (by decide) (by decide) (by simp) ?_; rw [secA_zero])
  refine HSUM.out.mono ?_
  rintro e w1 ⟨rfl, rfl⟩
  clear HSUM
  obtain ⟨v0, q0⟩ : ∃ v, W.cell? ⟨w.heap.size + 2, 0, none⟩ = some v := ⟨_, BB.cell HW.out.2.2.1 0 (by simp [z32_len])⟩
  have f0 : ∀ i, W.frozen? ⟨w.heap.size + 2, i, none⟩ = false := fun i => frozen_of_row W _ i _ _ HW.out.2.2.1
  go_upto_region 8 with fail
  go_wp2_with (first
      | (refine wpList_load_row rfl 25 (.tmp 6) rfl (w.heap.size + 2) rfl 25 (encB x).toArray (0, 0) _ HX4.out.1 Tryd.underlying25 rfl HI2.out ?_)
      | (refine wpList_store_rowK rfl 25 (.tmp 4) (.tmp 41) rfl (w.heap.size + 1) (encB x) (encB z32) 25 rfl rfl HX4.out.2.1 (by rw [length_encB, length_encB, HL.out, z32_len]) HI.out (encB_one _) ?_; intro w9 h9 hk9)
      | (refine wpList_plain rfl (fun K hK => ?_); go_simp; refine hK _ _ ?_; clear hK
         refine wpList_plain rfl (fun K hK => ?_); go_simp; refine hK _ _ ?_; clear hK
         refine wpList_plain rfl (fun K hK => ?_); go_simp; refine hK _ _ ?_; clear hK
         refine wpList_plain rfl (fun K hK => ?_); go_simp; refine hK _ _ ?_; clear hK
         refine wpList_plain rfl (fun K hK => ?_); go_simp; refine hK _ _ ?_; clear hK
         refine wpList_plain rfl (fun K hK => ?_); go_simp; refine hK _ _ ?_; clear hK
         refine wpList_plain rfl (fun K hK => ?_); go_simp; refine hK _ _ ?_; clear hK
         refine wpList_plain rfl (fun K hK => ?_); go_simp; refine hK _ _ ?_; clear hK
         refine wpList_plain rfl (fun K hK => ?_); go_simp; refine hK _ _ ?_; clear hK
         refine wpList_plain rfl (fun K hK => ?_); go_simp; refine hK _ _ ?_; clear hK
         refine wpList_plain rfl (fun K hK => ?_); go_simp; refine hK _ _ ?_; clear hK
         refine wpList_store_byte (by rfl) 5 (.tmp 30) (.tmp 21) (by rfl) (w.heap.size + 2) 0 b0 (by rfl) (by rfl) 25 z32 HW.out.2.2.1 (by simp [z32_len]) infoB1f ?_
         intro w2 h2 hk2
         have HS1 := Lib.hid (show BB w2 (w.heap.size + 2) 25 (z32.set 0 b0) ∧ BB w2 (w.heap.size + 1) 25 z32 ∧ Keeps [] w w2 from ⟨h2.out, HW.out.2.1.keeps hk2 (by simp), HW.out.2.2.2.trans hk2 (fun t ht => .inr (by simp at ht; omega))⟩)
         clear h2 hk2 q0 f0
         obtain ⟨v1, q1⟩ : ∃ v, w2.cell? ⟨w.heap.size + 2, 1, none⟩ = some v := ⟨_, BB.cell HS1.out.1 1 (by simp [z32_len])⟩
         have f1 : ∀ i, w2.frozen? ⟨w.heap.size + 2, i, none⟩ = false := fun i => frozen_of_row w2 _ i _ _ HS1.out.1
         refine wpList_plain rfl (fun K hK => ?_); go_simp; refine hK _ _ ?_; clear hK
         refine wpList_store_byte (by rfl) 5 (.tmp 31) (.tmp 24) (by rfl) (w.heap.size + 2) 1 b1 (by rfl) (by rfl) 25 (z32.set 0 b0) HS1.out.1 (by simp [z32_len]) infoB1f ?_
         intro w3 h3 hk3
         have HS2 := Lib.hid (show BB w3 (w.heap.size + 2) 25 ((z32.set 0 b0).set 1 b1) ∧ BB w3 (w.heap.size + 1) 25 z32 ∧ Keeps [] w w3 from ⟨h3.out, HS1.out.2.1.keeps hk3 (by simp), HS1.out.2.2.trans hk3 (fun t ht => .inr (by simp at ht; omega))⟩)
         clear h3 hk3 q1 f1
         obtain ⟨v2, q2⟩ : ∃ v, w3.cell? ⟨w.heap.size + 2, 2, none⟩ = some v := ⟨_, BB.cell HS2.out.1 2 (by simp [z32_len])⟩
         have f2 : ∀ i, w3.frozen? ⟨w.heap.size + 2, i, none⟩ = false := fun i => frozen_of_row w3 _ i _ _ HS2.out.1
         refine wpList_plain rfl (fun K hK => ?_); go_simp; refine hK _ _ ?_; clear hK
         refine wpList_store_byte (by rfl) 5 (.tmp 32) (.tmp 27) (by rfl) (w.heap.size + 2) 2 b2 (by rfl) (by rfl) 25 ((z32.set 0 b0).set 1 b1) HS2.out.1 (by simp [z32_len]) infoB1f ?_
         intro w4 h4 hk4
         have HS3 := Lib.hid (show BB w4 (w.heap.size + 2) 25 (((z32.set 0 b0).set 1 b1).set 2 b2) ∧ BB w4 (w.heap.size + 1) 25 z32 ∧ Keeps [] w w4 from ⟨h4.out, HS2.out.2.1.keeps hk4 (by simp), HS2.out.2.2.trans hk4 (fun t ht => .inr (by simp at ht; omega))⟩)
         clear h4 hk4 q2 f2
         obtain ⟨v3, q3⟩ : ∃ v, w4.cell? ⟨w.heap.size + 2, 3, none⟩ = some v := ⟨_, BB.cell HS3.out.1 3 (by simp [z32_len])⟩
         have f3 : ∀ i, w4.frozen? ⟨w.heap.size + 2, i, none⟩ = false := fun i => frozen_of_row w4 _ i _ _ HS3.out.1
         refine wpList_plain rfl (fun K hK => ?_); go_simp; refine hK _ _ ?_; clear hK
         refine wpList_store_byte (by rfl) 5 (.tmp 33) (.tmp 29) (by rfl) (w.heap.size + 2) 3 b3 (by rfl) (by rfl) 25 (((z32.set 0 b0).set 1 b1).set 2 b2) HS3.out.1 (by simp [z32_len]) infoB1f ?_
         intro w5 h5 hk5
         have HS4 := Lib.hid (show BB w5 (w.heap.size + 2) 25 ((((z32.set 0 b0).set 1 b1).set 2 b2).set 3 b3) ∧ BB w5 (w.heap.size + 1) 25 z32 ∧ Keeps [] w w5 from ⟨h5.out, HS3.out.2.1.keeps hk5 (by simp), HS3.out.2.2.trans hk5 (fun t ht => .inr (by simp at ht; omega))⟩)
         clear h5 hk5 q3 f3
         have HX4 := Lib.hid (show BB w5 (w.heap.size + 2) 25 x ∧ BB w5 (w.heap.size + 1) 25 z32 ∧ Keeps [] w w5 from by rw [HXS.out]; exact HS4.out)))
  have h4' : w9.heap[w.heap.size + 1]? = _ := h9.out
  refine bodyPost_ret (v := .tuple #[.agg (encB x).toArray, .nilIface]) (results_cell_tmp Tryd.results7 _ _ (w.heap.size + 1) 25 _ (0, 0) _ _ rfl rfl h4' Tryd.underlying25 rfl HI2.out) rfl ?_
  exact ⟨rfl, HX4.out.2.2.trans hk9 (fun t ht => .inr (by simp at ht; omega))⟩

set_option maxHeartbeats 2000000 in
theorem of_first (b : List UInt8) (w : World) (hb : b.length = 64) :
    Calls Tryd.prog 7 #[.int .i64 2, .agg (encB b).toArray] w (FpP (fpK 2 b) .nilIface w) := by
  have HB := Lib.hid hb
  have HZ := Lib.hid (show (#[.int .u8 0, .int .u8 0, .int .u8 0, .int .u8 0, .int .u8 0, .int .u8 0, .int .u8 0, .int .u8 0, .int .u8 0, .int .u8 0, .int .u8 0, .int .u8 0, .int .u8 0, .int .u8 0, .int .u8 0, .int .u8 0, .int .u8 0, .int .u8 0, .int .u8 0, .int .u8 0, .int .u8 0, .int .u8 0, .int .u8 0, .int .u8 0, .int .u8 0, .int .u8 0, .int .u8 0, .int .u8 0, .int .u8 0, .int .u8 0, .int .u8 0, .int .u8 0] : Array Value) = (encB z32).toArray from zero32k)
  obtain ⟨bs, hbs⟩ : ∃ bs, bs = (encB b).toArray := ⟨_, rfl⟩
  rw [← hbs]
  have HBS := Lib.hid hbs
  have HL := Lib.hid (fpK_len 2 b)
  have HI := Lib.hid (show (Tryd.prog.info? 25).map (·.size) = some (encB (fpK 2 b)).length by rw [length_encB, fpK_len]; exact infoPrF)
  have HI2 := Lib.hid (show (Tryd.prog.info? 25).map (·.size) = some (encB (fpK 2 b)).toArray.size by rw [List.size_toArray]; exact HI.out)
  obtain ⟨x, hx⟩ : ∃ x, x = fpK 2 b := ⟨_, rfl⟩
  rw [← hx] at HL HI HI2 ⊢
  have HX := Lib.hid hx
  clear hb hbs hx
  go_enter Tryd.func7, Tryd.ntmps7
  go_upto_region 2 with fail
  rw [HZ.out]
  obtain ⟨W, hW⟩ : ∃ W, W = ((w.alloc (.cells bs 23)).alloc (.cells (encB z32).toArray 25)).alloc (.cells (encB z32).toArray 25) := ⟨_, rfl⟩
  rw [← hW]
  have HW := Lib.hid (show Fb w W b z32 z32 by rw [hW, HBS.out]; exact Fb.start w b)
  clear hW
  obtain ⟨c, hc⟩ : ∃ c, c = b[0]'(by rw [HB.out]; decide) := ⟨_, rfl⟩
  have q0 := HW.out.1.cell 0 (by rw [HB.out]; decide)
  rw [← hc] at q0
  have HXS := Lib.hid (show x = z32.set 0 c by
    have h64 : 0 < b.length := by rw [HB.out]; decide
    rw [HX.out, hc]; unfold fpK
    simp [List.getD_eq_getElem?_getD, List.getElem?_eq_getElem h64])
  clear hc
  go_wp2_with (first
      | (refine wpList_load_row rfl 25 (.tmp 6) rfl (w.heap.size + 2) rfl 25 (encB x).toArray (0, 0) _ HX4.out.1 Tryd.underlying25 rfl HI2.out ?_)
      | (refine wpList_store_rowK rfl 25 (.tmp 4) (.tmp 41) rfl (w.heap.size + 1) (encB x) (encB z32) 25 rfl rfl HX4.out.2.1 (by rw [length_encB, length_encB, HL.out, z32_len]) HI.out (encB_one _) ?_; intro w9 h9 hk9)
      | (refine wpList_store_byte rfl 5 (.tmp 38) (.tmp 37) rfl (w.heap.size + 2) 0 c rfl rfl 25 z32 HW.out.2.2.1 (by decide) infoB1f ?_
         intro w5 h5 hk5
         have HX4 := Lib.hid (show BB w5 (w.heap.size + 2) 25 x ∧ BB w5 (w.heap.size + 1) 25 z32 ∧ Keeps [] w w5 from ⟨by rw [HXS.out]; exact h5.out, HW.out.2.1.keeps hk5 (by simp), HW.out.2.2.2.trans hk5 (fun t ht => .inr (by simp at ht; omega))⟩)
         clear h5 hk5))
  have h4' : w9.heap[w.heap.size + 1]? = _ := h9.out
  refine bodyPost_ret (v := .tuple #[.agg (encB x).toArray, .nilIface]) (results_cell_tmp Tryd.results7 _ _ (w.heap.size + 1) 25 _ (0, 0) _ _ rfl rfl h4' Tryd.underlying25 rfl HI2.out) rfl ?_
  exact ⟨rfl, HX4.out.2.2.trans hk9 (fun t ht => .inr (by simp at ht; omega))⟩

set_option maxHeartbeats 2000000 in
theorem of_same (b : List UInt8) (w : World) (hb : b.length = 64) :
    Calls Tryd.prog 7 #[.int .i64 3, .agg (encB b).toArray] w (FpP (fpK 3 b) .nilIface w) := by
  have HB := Lib.hid hb
  have HZ := Lib.hid (show (#[.int .u8 0, .int .u8 0, .int .u8 0, .int .u8 0, .int .u8 0, .int .u8 0, .int .u8 0, .int .u8 0, .int .u8 0, .int .u8 0, .int .u8 0, .int .u8 0, .int .u8 0, .int .u8 0, .int .u8 0, .int .u8 0, .int .u8 0, .int .u8 0, .int .u8 0, .int .u8 0, .int .u8 0, .int .u8 0, .int .u8 0, .int .u8 0, .int .u8 0, .int .u8 0, .int .u8 0, .int .u8 0, .int .u8 0, .int .u8 0, .int .u8 0, .int .u8 0] : Array Value) = (encB z32).toArray from zero32k)
  obtain ⟨bs, hbs⟩ : ∃ bs, bs = (encB b).toArray := ⟨_, rfl⟩
  rw [← hbs]
  have HBS := Lib.hid hbs
  have HL := Lib.hid (fpK_len 3 b)
  have HI := Lib.hid (show (Tryd.prog.info? 25).map (·.size) = some (encB (fpK 3 b)).length by rw [length_encB, fpK_len]; exact infoPrF)
  have HI2 := Lib.hid (show (Tryd.prog.info? 25).map (·.size) = some (encB (fpK 3 b)).toArray.size by rw [List.size_toArray]; exact HI.out)
  obtain ⟨x, hx⟩ : ∃ x, x = fpK 3 b := ⟨_, rfl⟩
  rw [← hx] at HL HI HI2 ⊢
  have HX := Lib.hid hx
  clear hb hbs hx
  go_enter Tryd.func7, Tryd.ntmps7
  go_upto_region 2 with fail
  rw [HZ.out]
  obtain ⟨W, hW⟩ : ∃ W, W = ((w.alloc (.cells bs 23)).alloc (.cells (encB z32).toArray 25)).alloc (.cells (encB z32).toArray 25) := ⟨_, rfl⟩
  rw [← hW]
  have HW := Lib.hid (show Fb w W b z32 z32 by rw [hW, HBS.out]; exact Fb.start w b)
  clear hW
  have HX4 := Lib.hid (show BB W (w.heap.size + 2) 25 x ∧ BB W (w.heap.size + 1) 25 z32 ∧ Keeps [] w W from by
    rw [show x = z32 by rw [HX.out]; rfl]; exact ⟨HW.out.2.2.1, HW.out.2.1, HW.out.2.2.2⟩)
  go_wp2_with (first
      | (refine wpList_load_row rfl 25 (.tmp 6) rfl (w.heap.size + 2) rfl 25 (encB x).toArray (0, 0) _ HX4.out.1 Tryd.underlying25 rfl HI2.out ?_)
      | (refine wpList_store_rowK rfl 25 (.tmp 4) (.tmp 41) rfl (w.heap.size + 1) (encB x) (encB z32) 25 rfl rfl HX4.out.2.1 (by rw [length_encB, length_encB, HL.out, z32_len]) HI.out (encB_one _) ?_; intro w9 h9 hk9))
  have h4' : w9.heap[w.heap.size + 1]? = _ := h9.out
  refine bodyPost_ret (v := .tuple #[.agg (encB x).toArray, .nilIface]) (results_cell_tmp Tryd.results7 _ _ (w.heap.size + 1) 25 _ (0, 0) _ _ rfl rfl h4' Tryd.underlying25 rfl HI2.out) rfl ?_
  exact ⟨rfl, HX4.out.2.2.trans hk9 (fun t ht => .inr (by simp at ht; omega))⟩

set_option maxHeartbeats 2000000 in
theorem of_none (k : Int) (b : List UInt8) (w : World) (hb : b.length = 64) (h0 : ¬ k = 0) (h1 : ¬ k = 1) (h2 : ¬ k = 2) (h3 : ¬ k = 3) :
    Calls Tryd.prog 7 #[.int .i64 k, .agg (encB b).toArray] w (FpP (fpK k b) (errV 1) w) := by
  have HB := Lib.hid hb
  have HZ := Lib.hid (show (#[.int .u8 0, .int .u8 0, .int .u8 0, .int .u8 0, .int .u8 0, .int .u8 0, .int .u8 0, .int .u8 0, .int .u8 0, .int .u8 0, .int .u8 0, .int .u8 0, .int .u8 0, .int .u8 0, .int .u8 0, .int .u8 0, .int .u8 0, .int .u8 0, .int .u8 0, .int .u8 0, .int .u8 0, .int .u8 0, .int .u8 0, .int .u8 0, .int .u8 0, .int .u8 0, .int .u8 0, .int .u8 0, .int .u8 0, .int .u8 0, .int .u8 0, .int .u8 0] : Array Value) = (encB z32).toArray from zero32k)
  obtain ⟨bs, hbs⟩ : ∃ bs, bs = (encB b).toArray := ⟨_, rfl⟩
  rw [← hbs]
  have HBS := Lib.hid hbs
  have HL := Lib.hid (fpK_len k b)
  have HI := Lib.hid (show (Tryd.prog.info? 25).map (·.size) = some (encB (fpK k b)).length by rw [length_encB, fpK_len]; exact infoPrF)
  have HI2 := Lib.hid (show (Tryd.prog.info? 25).map (·.size) = some (encB (fpK k b)).toArray.size by rw [List.size_toArray]; exact HI.out)
  obtain ⟨x, hx⟩ : ∃ x, x = fpK k b := ⟨_, rfl⟩
  rw [← hx] at HL HI HI2 ⊢
  have HX := Lib.hid hx
  clear hb hbs hx
  go_enter Tryd.func7, Tryd.ntmps7
  go_upto_region 2 with fail
  rw [HZ.out]
  obtain ⟨W, hW⟩ : ∃ W, W = ((w.alloc (.cells bs 23)).alloc (.cells (encB z32).toArray 25)).alloc (.cells (encB z32).toArray 25) := ⟨_, rfl⟩
  rw [← hW]
  have HW := Lib.hid (show Fb w W b z32 z32 by rw [hW, HBS.out]; exact Fb.start w b)
  clear hW
  have HX4 := Lib.hid (show BB W (w.heap.size + 2) 25 x ∧ BB W (w.heap.size + 1) 25 z32 ∧ Keeps [] w W from by
    rw [show x = z32 by rw [HX.out]; unfold fpK; rw [if_neg h0, if_neg h1, if_neg h2]]; exact ⟨HW.out.2.2.1, HW.out.2.1, HW.out.2.2.2⟩)
  have e0 : (k == 0) = false := by simp [h0]
  have e1 : (k == 1) = false := by simp [h1]
  have e2 : (k == 2) = false := by simp [h2]
  have e3 : (k == 3) = false := by simp [h3]
  clear h0 h1 h2 h3
  rw [errV_other (by decide)]
  go_wp2_with (first
      | (refine wpList_load_row rfl 25 (.tmp 6) rfl (w.heap.size + 2) rfl 25 (encB x).toArray (0, 0) _ HX4.out.1 Tryd.underlying25 rfl HI2.out ?_)
      | (refine wpList_store_rowK rfl 25 (.tmp 4) (.tmp 9) rfl (w.heap.size + 1) (encB x) (encB z32) 25 rfl rfl HX4.out.2.1 (by rw [length_encB, length_encB, HL.out, z32_len]) HI.out (encB_one _) ?_; intro w9 h9 hk9))
  have h4' : w9.heap[w.heap.size + 1]? = _ := h9.out
  refine bodyPost_ret (v := .tuple #[.agg (encB x).toArray, .iface 44 (.int .i64 1)]) (results_cell_tmp Tryd.results7 _ _ (w.heap.size + 1) 25 _ (0, 0) _ _ rfl rfl h4' Tryd.underlying25 rfl HI2.out) rfl ?_
  exact ⟨rfl, HX4.out.2.2.trans hk9 (fun t ht => .inr (by simp at ht; omega))⟩

theorem of_any (k : Int) (b : List UInt8) (w : World) (hb : b.length = 64) (hc : Con w) :
    Calls Tryd.prog 7 #[.int .i64 k, .agg (encB b).toArray] w (FpP (fpK k b) (errV (ferr k)) w) := by
  by_cases h0 : k = 0
  · subst h0; exact of_strong b w hb hc
  · by_cases h1 : k = 1
    · subst h1; exact of_weak b w hb
    · by_cases h2 : k = 2
      · subst h2; exact of_first b w hb
      · by_cases h3 : k = 3
        · subst h3; exact of_same b w hb
        · have e : ferr k = 1 := by unfold ferr; rw [if_neg h0, if_neg h1, if_neg h2, if_neg h3]
          rw [e]
          exact of_none k b w hb h0 h1 h2 h3
end Go.Proofs.YtomleanoofoejaaDoor
