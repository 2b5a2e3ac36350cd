/- A block's fingerprint: the document's contract. -/
import Derived.Test.YtomleanoofoejaaDoorFingOf
namespace Go.Proofs.YtomleanoofoejaaDoor
open Go.RowKit
attribute [local irreducible] turnK outK absAll hexAll endK sqzTo hmore

set_option maxRecDepth 100000 in
set_option maxHeartbeats 2000000 in
theorem rof_strong (b : List UInt8) (w : World) (hb : b.length = 64) :
    Calls Tryd.prog 15 #[.int .i64 0, .agg (encB b).toArray] w (FpP (fpK 0 b) (.int .i64 0) w) := by
  have HB := Lib.hid hb
  have HZ := Lib.hid (show (#[.int .u8 0, .int .u8 0, .int .u8 0, .int .u8 0, .int .u8 0, .int .u8 0, .int .u8 0, .int .u8 0, .int .u8 0, .int .u8 0, .int .u8 0, .int .u8 0, .int .u8 0, .int .u8 0, .int .u8 0, .int .u8 0, .int .u8 0, .int .u8 0, .int .u8 0, .int .u8 0, .int .u8 0, .int .u8 0, .int .u8 0, .int .u8 0, .int .u8 0, .int .u8 0, .int .u8 0, .int .u8 0, .int .u8 0, .int .u8 0, .int .u8 0, .int .u8 0] : Array Value) = (encB z32).toArray from zero32k)
  obtain ⟨bs, hbs⟩ : ∃ bs, bs = (encB b).toArray := ⟨_, rfl⟩
  rw [← hbs]
  have HBS := Lib.hid hbs
  have HL := Lib.hid (fpK_len 0 b)
  have HI := Lib.hid (show (Tryd.prog.info? 25).map (·.size) = some (encB (fpK 0 b)).length by rw [length_encB, fpK_len]; exact infoPrF)
  have HI2 := Lib.hid (show (Tryd.prog.info? 25).map (·.size) = some (encB (fpK 0 b)).toArray.size by rw [List.size_toArray]; exact HI.out)
  have HIZ := Lib.hid (show (Tryd.prog.info? 25).map (·.size) = some (encB z32).length by rw [length_encB, z32_len]; exact infoPrF)
  obtain ⟨x, hx⟩ : ∃ x, x = fpK 0 b := ⟨_, rfl⟩
  rw [← hx] at HL HI HI2 ⊢
  have HX := Lib.hid hx
  have HG0 := Lib.hid (show (((w.alloc (.cells bs 23)).alloc (.cells #[.int .u8 0, .int .u8 0, .int .u8 0, .int .u8 0, .int .u8 0, .int .u8 0, .int .u8 0, .int .u8 0, .int .u8 0, .int .u8 0, .int .u8 0, .int .u8 0, .int .u8 0, .int .u8 0, .int .u8 0, .int .u8 0, .int .u8 0, .int .u8 0, .int .u8 0, .int .u8 0, .int .u8 0, .int .u8 0, .int .u8 0, .int .u8 0, .int .u8 0, .int .u8 0, .int .u8 0, .int .u8 0, .int .u8 0, .int .u8 0, .int .u8 0, .int .u8 0] 25)).alloc (.cells #[.int .u8 0, .int .u8 0, .int .u8 0, .int .u8 0, .int .u8 0, .int .u8 0, .int .u8 0, .int .u8 0, .int .u8 0, .int .u8 0, .int .u8 0, .int .u8 0, .int .u8 0, .int .u8 0, .int .u8 0, .int .u8 0, .int .u8 0, .int .u8 0, .int .u8 0, .int .u8 0, .int .u8 0, .int .u8 0, .int .u8 0, .int .u8 0, .int .u8 0, .int .u8 0, .int .u8 0, .int .u8 0, .int .u8 0, .int .u8 0, .int .u8 0, .int .u8 0] 25)).heap[w.heap.size + 2]? = some (.cells (encB z32).toArray 25 (0, 0)) ∧ Fb w (((w.alloc (.cells bs 23)).alloc (.cells #[.int .u8 0, .int .u8 0, .int .u8 0, .int .u8 0, .int .u8 0, .int .u8 0, .int .u8 0, .int .u8 0, .int .u8 0, .int .u8 0, .int .u8 0, .int .u8 0, .int .u8 0, .int .u8 0, .int .u8 0, .int .u8 0, .int .u8 0, .int .u8 0, .int .u8 0, .int .u8 0, .int .u8 0, .int .u8 0, .int .u8 0, .int .u8 0, .int .u8 0, .int .u8 0, .int .u8 0, .int .u8 0, .int .u8 0, .int .u8 0, .int .u8 0, .int .u8 0] 25)).alloc (.cells #[.int .u8 0, .int .u8 0, .int .u8 0, .int .u8 0, .int .u8 0, .int .u8 0, .int .u8 0, .int .u8 0, .int .u8 0, .int .u8 0, .int .u8 0, .int .u8 0, .int .u8 0, .int .u8 0, .int .u8 0, .int .u8 0, .int .u8 0, .int .u8 0, .int .u8 0, .int .u8 0, .int .u8 0, .int .u8 0, .int .u8 0, .int .u8 0, .int .u8 0, .int .u8 0, .int .u8 0, .int .u8 0, .int .u8 0, .int .u8 0, .int .u8 0, .int .u8 0] 25)) b z32 z32 by
    rw [HZ.out, hbs]; exact ⟨(Fb.start w b).2.2.1, Fb.start w b⟩)
  clear hb hbs hx
  go_enter Tryd.func15, Tryd.ntmps15
  go_upto_region 2 with (refine wpList_store_rowK rfl 25 (.tmp 6) (.tmp 9) rfl (w.heap.size + 2) (encB z32) (encB z32) 25 rfl (congrArg Value.agg zero32k) HG0.out.1 rfl HIZ.out (encB_one _) ?_
                         intro W h2 hk2
                         have HW := Lib.hid (show Fb w W b z32 z32 from ⟨HG0.out.2.1.keeps hk2 (by simp), HG0.out.2.2.1.keeps hk2 (by simp), h2.out, HG0.out.2.2.2.2.trans hk2 (fun t ht => .inr (by simp at ht; omega))⟩)
                         clear h2 hk2 HG0)
  have HRD := Lib.hid (show RdB W (some ⟨w.heap.size, 0, none⟩) b from ⟨by simp, fun _ => ⟨_, rfl, fun j u hu => by rw [add_new, Nat.zero_add, cell_of_row _ _ _ _ _ _ HW.out.1, List.getElem?_toArray]; exact hu⟩⟩)
  have HSUM := Lib.hid (krefsum_any (some ⟨w.heap.size, 0, none⟩) b 64 W (by rw [HB.out]; decide) HRD.out)
  rw [HB.out] at HSUM
  go_wp2_with (refine wpList_secArr rfl 23 (.tmp 3) none none none rfl Tryd.underlying23 infoB1f ⟨w.heap.size, 0, none⟩ 0 64 64 rfl .no .no .no (by decide) (by decide) (by decide) (by simp) ?_; rw [secA_zero])
  refine HSUM.out.mono ?_
  rintro e w1 ⟨rfl, hk1⟩
  rw [show outK (absAll beginK b) 6 32 = x by rw [HX.out]; rfl]
  have HV := Lib.hid (HW.out.keeps hk1)
  clear HSUM hk1
  go_wp2_with (refine wpList_store_rowK rfl 25 (.tmp 4) (.tmp 14) rfl (w.heap.size + 1) (encB x) (encB z32) 25 rfl rfl HV.out.2.1 (by rw [length_encB, length_encB, HL.out, z32_len]) HI.out (encB_one _) ?_; intro w9 h9 hk9)
  have h4' : w9.heap[w.heap.size + 1]? = _ := h9.out
  refine bodyPost_ret (v := .tuple #[.agg (encB x).toArray, .int .i64 0]) (results_cell_tmp Tryd.results15 _ _ (w.heap.size + 1) 25 _ (0, 0) _ _ rfl rfl h4' Tryd.underlying25 rfl HI2.out) rfl ?_
  exact ⟨rfl, HV.out.2.2.2.trans hk9 (fun t ht => .inr (by simp at ht; omega))⟩

/-- The sum's bytes, from the last one on. -/
def wkN (s : Nat) (n : Nat) : List UInt8 := (List.range n).foldl (fun l i => l.set (3 - i) (UInt8.ofNat (s / 256 ^ i))) z32
theorem wkN_succ (s n : Nat) : wkN s (n + 1) = (wkN s n).set (3 - n) (UInt8.ofNat (s / 256 ^ n)) := foldl_range_succ _ _ _
theorem wkN_len (s n : Nat) : (wkN s n).length = 32 := by
  induction n with
  | zero => rfl
  | succ n ih => rw [wkN_succ, List.length_set, ih]
theorem wkN_four (s : Nat) : wkN s 4 = (((z32.set 0 (UInt8.ofNat (s / 16777216))).set 1 (UInt8.ofNat (s / 65536))).set 2 (UInt8.ofNat (s / 256))).set 3 (UInt8.ofNat s) := by
  rw [wkN_succ, wkN_succ, wkN_succ, wkN_succ]
  have e0 : s / 256 ^ 0 = s := by simp
  rw [e0]
  rfl
set_option maxRecDepth 100000 in
set_option maxHeartbeats 4000000 in
theorem rof_weak (b : List UInt8) (w : World) (hb : b.length = 64) :
    Calls Tryd.prog 15 #[.int .i64 1, .agg (encB b).toArray] w (FpP (fpK 1 b) (.int .i64 0) w) := by
  have HB := Lib.hid hb
  have HZ := Lib.hid (show (#[.int .u8 0, .int .u8 0, .int .u8 0, .int .u8 0, .int .u8 0, .int .u8 0, .int .u8 0, .int .u8 0, .int .u8 0, .int .u8 0, .int .u8 0, .int .u8 0, .int .u8 0, .int .u8 0, .int .u8 0, .int .u8 0, .int .u8 0, .int .u8 0, .int .u8 0, .int .u8 0, .int .u8 0, .int .u8 0, .int .u8 0, .int .u8 0, .int .u8 0, .int .u8 0, .int .u8 0, .int .u8 0, .int .u8 0, .int .u8 0, .int .u8 0, .int .u8 0] : Array Value) = (encB z32).toArray from zero32k)
  obtain ⟨bs, hbs⟩ : ∃ bs, bs = (encB b).toArray := ⟨_, rfl⟩
  rw [← hbs]
  have HBS := Lib.hid hbs
  have HL := Lib.hid (fpK_len 1 b)
  have HI := Lib.hid (show (Tryd.prog.info? 25).map (·.size) = some (encB (fpK 1 b)).length by rw [length_encB, fpK_len]; exact infoPrF)
  have HI2 := Lib.hid (show (Tryd.prog.info? 25).map (·.size) = some (encB (fpK 1 b)).toArray.size by rw [List.size_toArray]; exact HI.out)
  have HIZ := Lib.hid (show (Tryd.prog.info? 25).map (·.size) = some (encB z32).length by rw [length_encB, z32_len]; exact infoPrF)
  obtain ⟨x, hx⟩ : ∃ x, x = fpK 1 b := ⟨_, rfl⟩
  rw [← hx] at HL HI HI2 ⊢
  have HX := Lib.hid hx
  have HG0 := Lib.hid (show (((w.alloc (.cells bs 23)).alloc (.cells #[.int .u8 0, .int .u8 0, .int .u8 0, .int .u8 0, .int .u8 0, .int .u8 0, .int .u8 0, .int .u8 0, .int .u8 0, .int .u8 0, .int .u8 0, .int .u8 0, .int .u8 0, .int .u8 0, .int .u8 0, .int .u8 0, .int .u8 0, .int .u8 0, .int .u8 0, .int .u8 0, .int .u8 0, .int .u8 0, .int .u8 0, .int .u8 0, .int .u8 0, .int .u8 0, .int .u8 0, .int .u8 0, .int .u8 0, .int .u8 0, .int .u8 0, .int .u8 0] 25)).alloc (.cells #[.int .u8 0, .int .u8 0, .int .u8 0, .int .u8 0, .int .u8 0, .int .u8 0, .int .u8 0, .int .u8 0, .int .u8 0, .int .u8 0, .int .u8 0, .int .u8 0, .int .u8 0, .int .u8 0, .int .u8 0, .int .u8 0, .int .u8 0, .int .u8 0, .int .u8 0, .int .u8 0, .int .u8 0, .int .u8 0, .int .u8 0, .int .u8 0, .int .u8 0, .int .u8 0, .int .u8 0, .int .u8 0, .int .u8 0, .int .u8 0, .int .u8 0, .int .u8 0] 25)).heap[w.heap.size + 2]? = some (.cells (encB z32).toArray 25 (0, 0)) ∧ Fb w (((w.alloc (.cells bs 23)).alloc (.cells #[.int .u8 0, .int .u8 0, .int .u8 0, .int .u8 0, .int .u8 0, .int .u8 0, .int .u8 0, .int .u8 0, .int .u8 0, .int .u8 0, .int .u8 0, .int .u8 0, .int .u8 0, .int .u8 0, .int .u8 0, .int .u8 0, .int .u8 0, .int .u8 0, .int .u8 0, .int .u8 0, .int .u8 0, .int .u8 0, .int .u8 0, .int .u8 0, .int .u8 0, .int .u8 0, .int .u8 0, .int .u8 0, .int .u8 0, .int .u8 0, .int .u8 0, .int .u8 0] 25)).alloc (.cells #[.int .u8 0, .int .u8 0, .int .u8 0, .int .u8 0, .int .u8 0, .int .u8 0, .int .u8 0, .int .u8 0, .int .u8 0, .int .u8 0, .int .u8 0, .int .u8 0, .int .u8 0, .int .u8 0, .int .u8 0, .int .u8 0, .int .u8 0, .int .u8 0, .int .u8 0, .int .u8 0, .int .u8 0, .int .u8 0, .int .u8 0, .int .u8 0, .int .u8 0, .int .u8 0, .int .u8 0, .int .u8 0, .int .u8 0, .int .u8 0, .int .u8 0, .int .u8 0] 25)) b z32 z32 by
    rw [HZ.out, hbs]; exact ⟨(Fb.start w b).2.2.1, Fb.start w b⟩)
  clear hb hbs hx
  go_enter Tryd.func15, Tryd.ntmps15
  go_upto_region 2 with (refine wpList_store_rowK rfl 25 (.tmp 6) (.tmp 9) rfl (w.heap.size + 2) (encB z32) (encB z32) 25 rfl (congrArg Value.agg zero32k) HG0.out.1 rfl HIZ.out (encB_one _) ?_
                         intro W h2 hk2
                         have HW := Lib.hid (show Fb w W b z32 z32 from ⟨HG0.out.2.1.keeps hk2 (by simp), HG0.out.2.2.1.keeps hk2 (by simp), h2.out, HG0.out.2.2.2.2.trans hk2 (fun t ht => .inr (by simp at ht; omega))⟩)
                         clear h2 hk2 HG0)
  have HRD := Lib.hid (show RdB W (some ⟨w.heap.size, 0, none⟩) b from ⟨by simp, fun _ => ⟨_, rfl, fun j u hu => by rw [add_new, Nat.zero_add, cell_of_row _ _ _ _ _ _ HW.out.1, List.getElem?_toArray]; exact hu⟩⟩)
  have HSUM := Lib.hid (refsum_any (some ⟨w.heap.size, 0, none⟩) b 64 W (by rw [HB.out]; decide) HRD.out)
  rw [HB.out] at HSUM
  have hm := hmore_range 1 b (by decide)
  obtain ⟨s, hs⟩ : ∃ s : Nat, hmore 1 b = (s : Int) := ⟨(hmore 1 b).toNat, by omega⟩
  have HXS := Lib.hid (show x = wkN s 4 by
    rw [HX.out, ← weak_set, wkN_four]; unfold weakK; rw [hs]; rfl)
  rw [hs] at HSUM hm
  have HM := Lib.hid (show s < 2147483647 by omega)
  clear hs hm
  go_wp2_with (refine wpList_secArr rfl 23 (.tmp 3) none none none rfl Tryd.underlying23 infoB1f ⟨w.heap.size, 0, none⟩ 0 64 64 rfl .no .no .no (by decide) (by decide) (by decide) (by simp) ?_; rw [secA_zero])
  refine HSUM.out.mono ?_
  rintro e w1 ⟨rfl, rfl⟩
  clear HSUM
  have INV := Lib.hid (show BB W (w.heap.size + 2) 25 (wkN s 0) ∧ BB W (w.heap.size + 1) 25 z32 ∧ Keeps [] w W from ⟨HW.out.2.2.1, HW.out.2.1, HW.out.2.2.2⟩)
  go_wp2_with fail
  go_loopw [7, 8] (fun sv i wr => ∃ k n : Nat, k ≤ 4 ∧ i = .int .i64 k ∧ sv = .int .u32 n ∧ Hid (n = s / 256 ^ k) ∧ Hid (BB wr (w.heap.size + 2) 25 (wkN s k) ∧ BB wr (w.heap.size + 1) 25 z32 ∧ Keeps [] w wr)) (fun _ i _ => 4 - (intOf i).toNat)
  case atStart => exact ⟨0, s, by omega, rfl, rfl, by show _ = _; simp, INV.out⟩
  case round =>
    clear INV
    obtain ⟨k, n, hk, rfl, rfl, hn, hinv⟩ := hrel
    have hnl : n < 2147483647 := by rw [hn.out]; exact Nat.lt_of_le_of_lt (Nat.div_le_self _ _) HM.out
    by_cases hlt : k < 4
    · have hi : (k : Int) < 4 := by omega
      obtain ⟨j, hj⟩ : ∃ j, j = 3 - k := ⟨_, rfl⟩
      obtain ⟨c, hc⟩ : ∃ c, c = UInt8.ofNat n := ⟨_, rfl⟩
      obtain ⟨n2, hn2⟩ : ∃ m, m = n / 256 := ⟨_, rfl⟩
      have dk : (3 : Int) - (k : Int) = (j : Int) := by omega
      have bj : (j : Int) < 32 := by omega
      have cb : IntKind.u8.wrap (n : Int) = (c.toNat : Int) := by rw [hc, UInt8.toNat_ofNat', IntKind.wrap_u8]; omega
      have cb' : (n : Int) % 256 = (c.toNat : Int) := by rw [hc, UInt8.toNat_ofNat']; omega
      have td : (n : Int).tdiv 256 = (n2 : Int) := by rw [Int.tdiv_eq_ediv_of_nonneg (by omega)]; omega
      have td' : (n : Int) / 256 = (n2 : Int) := by omega
      have HST := Lib.hid (show wkN s (k + 1) = (wkN s k).set j c ∧ n2 = s / 256 ^ (k + 1) from ⟨by rw [wkN_succ, ← hn.out, ← hj, ← hc], by rw [hn2, hn.out, Nat.div_div_eq_div_mul, Nat.pow_succ]⟩)
      have HJ := Lib.hid (show j < (wkN s k).length by rw [wkN_len]; omega)
      obtain ⟨v0, q0⟩ : ∃ v, wr.cell? ⟨w.heap.size + 2, j, none⟩ = some v := ⟨_, hinv.out.1.cell j HJ.out⟩
      have f0 : ∀ i, wr.frozen? ⟨w.heap.size + 2, i, none⟩ = false := fun i => frozen_of_row wr _ i _ _ hinv.out.1
      clear hj hc hn2 hn
      go_wp2_with (refine wpList_store_byte rfl 5 (.tmp 27) (.tmp 26) rfl (w.heap.size + 2) j c rfl rfl 25 (wkN s k) hinv.out.1 HJ.out infoB1f ?_
                   intro w5 h5 hk5
                   have HV := Lib.hid (show BB w5 (w.heap.size + 2) 25 (wkN s (k + 1)) ∧ BB w5 (w.heap.size + 1) 25 z32 ∧ Keeps [] w w5 from ⟨by rw [HST.out.1]; exact h5.out, hinv.out.2.1.keeps hk5 (by simp), hinv.out.2.2.trans hk5 (fun t ht => .inr (by simp at ht; omega))⟩)
                   clear h5 hk5 q0 f0)
      go_roundw
      case rel => exact ⟨k + 1, n2, by omega, by go_num, rfl, HST.out.2, HV.out⟩
      case measure => simp [intOf]; omega
    · have hi : ¬ (k : Int) < 4 := by omega
      have HX4 := Lib.hid (show BB wr (w.heap.size + 2) 25 x ∧ BB wr (w.heap.size + 1) 25 z32 ∧ Keeps [] w wr from by
        have h1 := hinv.out
        rw [show k = 4 by omega] at h1
        rw [HXS.out]; exact h1)
      clear hlt
      go_wp2_with (first
        | (refine wpList_load_row rfl 25 (.tmp 6) rfl (w.heap.size + 2) rfl 25 (encB x).toArray (0, 0) _ HX4.out.1 Tryd.underlying25 rfl HI2.out ?_)
        | (refine wpList_store_rowK rfl 25 (.tmp 4) (.tmp 30) rfl (w.heap.size + 1) (encB x) (encB z32) 25 rfl rfl HX4.out.2.1 (by rw [length_encB, length_encB, HL.out, z32_len]) HI.out (encB_one _) ?_; intro w9 h9 hk9))
      have h4' : w9.heap[w.heap.size + 1]? = _ := h9.out
      refine bodyPost_ret (v := .tuple #[.agg (encB x).toArray, .int .i64 0]) (results_cell_tmp Tryd.results15 _ _ (w.heap.size + 1) 25 _ (0, 0) _ _ rfl rfl h4' Tryd.underlying25 rfl HI2.out) rfl ?_
      exact ⟨rfl, HX4.out.2.2.trans hk9 (fun t ht => .inr (by simp at ht; omega))⟩

set_option maxRecDepth 100000 in
set_option maxHeartbeats 2000000 in
theorem rof_first (b : List UInt8) (w : World) (hb : b.length = 64) :
    Calls Tryd.prog 15 #[.int .i64 2, .agg (encB b).toArray] w (FpP (fpK 2 b) (.int .i64 0) w) := by
  have HB := Lib.hid hb
  have HZ := Lib.hid (show (#[.int .u8 0, .int .u8 0, .int .u8 0, .int .u8 0, .int .u8 0, .int .u8 0, .int .u8 0, .int .u8 0, .int .u8 0, .int .u8 0, .int .u8 0, .int .u8 0, .int .u8 0, .int .u8 0, .int .u8 0, .int .u8 0, .int .u8 0, .int .u8 0, .int .u8 0, .int .u8 0, .int .u8 0, .int .u8 0, .int .u8 0, .int .u8 0, .int .u8 0, .int .u8 0, .int .u8 0, .int .u8 0, .int .u8 0, .int .u8 0, .int .u8 0, .int .u8 0] : Array Value) = (encB z32).toArray from zero32k)
  obtain ⟨bs, hbs⟩ : ∃ bs, bs = (encB b).toArray := ⟨_, rfl⟩
  rw [← hbs]
  have HBS := Lib.hid hbs
  have HL := Lib.hid (fpK_len 2 b)
  have HI := Lib.hid (show (Tryd.prog.info? 25).map (·.size) = some (encB (fpK 2 b)).length by rw [length_encB, fpK_len]; exact infoPrF)
  have HI2 := Lib.hid (show (Tryd.prog.info? 25).map (·.size) = some (encB (fpK 2 b)).toArray.size by rw [List.size_toArray]; exact HI.out)
  have HIZ := Lib.hid (show (Tryd.prog.info? 25).map (·.size) = some (encB z32).length by rw [length_encB, z32_len]; exact infoPrF)
  obtain ⟨x, hx⟩ : ∃ x, x = fpK 2 b := ⟨_, rfl⟩
  rw [← hx] at HL HI HI2 ⊢
  have HX := Lib.hid hx
  have HG0 := Lib.hid (show (((w.alloc (.cells bs 23)).alloc (.cells #[.int .u8 0, .int .u8 0, .int .u8 0, .int .u8 0, .int .u8 0, .int .u8 0, .int .u8 0, .int .u8 0, .int .u8 0, .int .u8 0, .int .u8 0, .int .u8 0, .int .u8 0, .int .u8 0, .int .u8 0, .int .u8 0, .int .u8 0, .int .u8 0, .int .u8 0, .int .u8 0, .int .u8 0, .int .u8 0, .int .u8 0, .int .u8 0, .int .u8 0, .int .u8 0, .int .u8 0, .int .u8 0, .int .u8 0, .int .u8 0, .int .u8 0, .int .u8 0] 25)).alloc (.cells #[.int .u8 0, .int .u8 0, .int .u8 0, .int .u8 0, .int .u8 0, .int .u8 0, .int .u8 0, .int .u8 0, .int .u8 0, .int .u8 0, .int .u8 0, .int .u8 0, .int .u8 0, .int .u8 0, .int .u8 0, .int .u8 0, .int .u8 0, .int .u8 0, .int .u8 0, .int .u8 0, .int .u8 0, .int .u8 0, .int .u8 0, .int .u8 0, .int .u8 0, .int .u8 0, .int .u8 0, .int .u8 0, .int .u8 0, .int .u8 0, .int .u8 0, .int .u8 0] 25)).heap[w.heap.size + 2]? = some (.cells (encB z32).toArray 25 (0, 0)) ∧ Fb w (((w.alloc (.cells bs 23)).alloc (.cells #[.int .u8 0, .int .u8 0, .int .u8 0, .int .u8 0, .int .u8 0, .int .u8 0, .int .u8 0, .int .u8 0, .int .u8 0, .int .u8 0, .int .u8 0, .int .u8 0, .int .u8 0, .int .u8 0, .int .u8 0, .int .u8 0, .int .u8 0, .int .u8 0, .int .u8 0, .int .u8 0, .int .u8 0, .int .u8 0, .int .u8 0, .int .u8 0, .int .u8 0, .int .u8 0, .int .u8 0, .int .u8 0, .int .u8 0, .int .u8 0, .int .u8 0, .int .u8 0] 25)).alloc (.cells #[.int .u8 0, .int .u8 0, .int .u8 0, .int .u8 0, .int .u8 0, .int .u8 0, .int .u8 0, .int .u8 0, .int .u8 0, .int .u8 0, .int .u8 0, .int .u8 0, .int .u8 0, .int .u8 0, .int .u8 0, .int .u8 0, .int .u8 0, .int .u8 0, .int .u8 0, .int .u8 0, .int .u8 0, .int .u8 0, .int .u8 0, .int .u8 0, .int .u8 0, .int .u8 0, .int .u8 0, .int .u8 0, .int .u8 0, .int .u8 0, .int .u8 0, .int .u8 0] 25)) b z32 z32 by
    rw [HZ.out, hbs]; exact ⟨(Fb.start w b).2.2.1, Fb.start w b⟩)
  clear hb hbs hx
  go_enter Tryd.func15, Tryd.ntmps15
  go_upto_region 2 with (refine wpList_store_rowK rfl 25 (.tmp 6) (.tmp 9) rfl (w.heap.size + 2) (encB z32) (encB z32) 25 rfl (congrArg Value.agg zero32k) HG0.out.1 rfl HIZ.out (encB_one _) ?_
                         intro W h2 hk2
                         have HW := Lib.hid (show Fb w W b z32 z32 from ⟨HG0.out.2.1.keeps hk2 (by simp), HG0.out.2.2.1.keeps hk2 (by simp), h2.out, HG0.out.2.2.2.2.trans hk2 (fun t ht => .inr (by simp at ht; omega))⟩)
                         clear h2 hk2 HG0)
  obtain ⟨c, hc⟩ : ∃ c, c = b[0]'(by rw [HB.out]; decide) := ⟨_, rfl⟩
  have q0 := HW.out.1.cell 0 (by rw [HB.out]; decide)
  rw [← hc] at q0
  have HXS := Lib.hid (show x = z32.set 0 c by
    have h64 : 0 < b.length := by rw [HB.out]; decide
    rw [HX.out, hc]; unfold fpK
    simp [List.getD_eq_getElem?_getD, List.getElem?_eq_getElem h64])
  clear hc
  go_wp2_with (first
      | (refine wpList_load_row rfl 25 (.tmp 6) rfl (w.heap.size + 2) rfl 25 (encB x).toArray (0, 0) _ HX4.out.1 Tryd.underlying25 rfl HI2.out ?_)
      | (refine wpList_store_rowK rfl 25 (.tmp 4) (.tmp 36) rfl (w.heap.size + 1) (encB x) (encB z32) 25 rfl rfl HX4.out.2.1 (by rw [length_encB, length_encB, HL.out, z32_len]) HI.out (encB_one _) ?_; intro w9 h9 hk9)
      | (refine wpList_store_byte rfl 5 (.tmp 35) (.tmp 34) rfl (w.heap.size + 2) 0 c rfl rfl 25 z32 HW.out.2.2.1 (by decide) infoB1f ?_
         intro w5 h5 hk5
         have HX4 := Lib.hid (show BB w5 (w.heap.size + 2) 25 x ∧ BB w5 (w.heap.size + 1) 25 z32 ∧ Keeps [] w w5 from ⟨by rw [HXS.out]; exact h5.out, HW.out.2.1.keeps hk5 (by simp), HW.out.2.2.2.trans hk5 (fun t ht => .inr (by simp at ht; omega))⟩)
         clear h5 hk5))
  have h4' : w9.heap[w.heap.size + 1]? = _ := h9.out
  refine bodyPost_ret (v := .tuple #[.agg (encB x).toArray, .int .i64 0]) (results_cell_tmp Tryd.results15 _ _ (w.heap.size + 1) 25 _ (0, 0) _ _ rfl rfl h4' Tryd.underlying25 rfl HI2.out) rfl ?_
  exact ⟨rfl, HX4.out.2.2.trans hk9 (fun t ht => .inr (by simp at ht; omega))⟩

set_option maxRecDepth 100000 in
set_option maxHeartbeats 2000000 in
theorem rof_same (b : List UInt8) (w : World) (hb : b.length = 64) :
    Calls Tryd.prog 15 #[.int .i64 3, .agg (encB b).toArray] w (FpP (fpK 3 b) (.int .i64 0) w) := by
  have HB := Lib.hid hb
  have HZ := Lib.hid (show (#[.int .u8 0, .int .u8 0, .int .u8 0, .int .u8 0, .int .u8 0, .int .u8 0, .int .u8 0, .int .u8 0, .int .u8 0, .int .u8 0, .int .u8 0, .int .u8 0, .int .u8 0, .int .u8 0, .int .u8 0, .int .u8 0, .int .u8 0, .int .u8 0, .int .u8 0, .int .u8 0, .int .u8 0, .int .u8 0, .int .u8 0, .int .u8 0, .int .u8 0, .int .u8 0, .int .u8 0, .int .u8 0, .int .u8 0, .int .u8 0, .int .u8 0, .int .u8 0] : Array Value) = (encB z32).toArray from zero32k)
  obtain ⟨bs, hbs⟩ : ∃ bs, bs = (encB b).toArray := ⟨_, rfl⟩
  rw [← hbs]
  have HBS := Lib.hid hbs
  have HL := Lib.hid (fpK_len 3 b)
  have HI := Lib.hid (show (Tryd.prog.info? 25).map (·.size) = some (encB (fpK 3 b)).length by rw [length_encB, fpK_len]; exact infoPrF)
  have HI2 := Lib.hid (show (Tryd.prog.info? 25).map (·.size) = some (encB (fpK 3 b)).toArray.size by rw [List.size_toArray]; exact HI.out)
  have HIZ := Lib.hid (show (Tryd.prog.info? 25).map (·.size) = some (encB z32).length by rw [length_encB, z32_len]; exact infoPrF)
  obtain ⟨x, hx⟩ : ∃ x, x = fpK 3 b := ⟨_, rfl⟩
  rw [← hx] at HL HI HI2 ⊢
  have HX := Lib.hid hx
  have HG0 := Lib.hid (show (((w.alloc (.cells bs 23)).alloc (.cells #[.int .u8 0, .int .u8 0, .int .u8 0, .int .u8 0, .int .u8 0, .int .u8 0, .int .u8 0, .int .u8 0, .int .u8 0, .int .u8 0, .int .u8 0, .int .u8 0, .int .u8 0, .int .u8 0, .int .u8 0, .int .u8 0, .int .u8 0, .int .u8 0, .int .u8 0, .int .u8 0, .int .u8 0, .int .u8 0, .int .u8 0, .int .u8 0, .int .u8 0, .int .u8 0, .int .u8 0, .int .u8 0, .int .u8 0, .int .u8 0, .int .u8 0, .int .u8 0] 25)).alloc (.cells #[.int .u8 0, .int .u8 0, .int .u8 0, .int .u8 0, .int .u8 0, .int .u8 0, .int .u8 0, .int .u8 0, .int .u8 0, .int .u8 0, .int .u8 0, .int .u8 0, .int .u8 0, .int .u8 0, .int .u8 0, .int .u8 0, .int .u8 0, .int .u8 0, .int .u8 0, .int .u8 0, .int .u8 0, .int .u8 0, .int .u8 0, .int .u8 0, .int .u8 0, .int .u8 0, .int .u8 0, .int .u8 0, .int .u8 0, .int .u8 0, .int .u8 0, .int .u8 0] 25)).heap[w.heap.size + 2]? = some (.cells (encB z32).toArray 25 (0, 0)) ∧ Fb w (((w.alloc (.cells bs 23)).alloc (.cells #[.int .u8 0, .int .u8 0, .int .u8 0, .int .u8 0, .int .u8 0, .int .u8 0, .int .u8 0, .int .u8 0, .int .u8 0, .int .u8 0, .int .u8 0, .int .u8 0, .int .u8 0, .int .u8 0, .int .u8 0, .int .u8 0, .int .u8 0, .int .u8 0, .int .u8 0, .int .u8 0, .int .u8 0, .int .u8 0, .int .u8 0, .int .u8 0, .int .u8 0, .int .u8 0, .int .u8 0, .int .u8 0, .int .u8 0, .int .u8 0, .int .u8 0, .int .u8 0] 25)).alloc (.cells #[.int .u8 0, .int .u8 0, .int .u8 0, .int .u8 0, .int .u8 0, .int .u8 0, .int .u8 0, .int .u8 0, .int .u8 0, .int .u8 0, .int .u8 0, .int .u8 0, .int .u8 0, .int .u8 0, .int .u8 0, .int .u8 0, .int .u8 0, .int .u8 0, .int .u8 0, .int .u8 0, .int .u8 0, .int .u8 0, .int .u8 0, .int .u8 0, .int .u8 0, .int .u8 0, .int .u8 0, .int .u8 0, .int .u8 0, .int .u8 0, .int .u8 0, .int .u8 0] 25)) b z32 z32 by
    rw [HZ.out, hbs]; exact ⟨(Fb.start w b).2.2.1, Fb.start w b⟩)
  clear hb hbs hx
  go_enter Tryd.func15, Tryd.ntmps15
  go_upto_region 2 with (refine wpList_store_rowK rfl 25 (.tmp 6) (.tmp 9) rfl (w.heap.size + 2) (encB z32) (encB z32) 25 rfl (congrArg Value.agg zero32k) HG0.out.1 rfl HIZ.out (encB_one _) ?_
                         intro W h2 hk2
                         have HW := Lib.hid (show Fb w W b z32 z32 from ⟨HG0.out.2.1.keeps hk2 (by simp), HG0.out.2.2.1.keeps hk2 (by simp), h2.out, HG0.out.2.2.2.2.trans hk2 (fun t ht => .inr (by simp at ht; omega))⟩)
                         clear h2 hk2 HG0)
  have HX4 := Lib.hid (show BB W (w.heap.size + 2) 25 x ∧ BB W (w.heap.size + 1) 25 z32 ∧ Keeps [] w W from by
    rw [show x = z32 by rw [HX.out]; rfl]; exact ⟨HW.out.2.2.1, HW.out.2.1, HW.out.2.2.2⟩)
  go_wp2_with (first
      | (refine wpList_load_row rfl 25 (.tmp 6) rfl (w.heap.size + 2) rfl 25 (encB x).toArray (0, 0) _ HX4.out.1 Tryd.underlying25 rfl HI2.out ?_)
      | (refine wpList_store_rowK rfl 25 (.tmp 4) (.tmp 39) rfl (w.heap.size + 1) (encB x) (encB z32) 25 rfl rfl HX4.out.2.1 (by rw [length_encB, length_encB, HL.out, z32_len]) HI.out (encB_one _) ?_; intro w9 h9 hk9))
  have h4' : w9.heap[w.heap.size + 1]? = _ := h9.out
  refine bodyPost_ret (v := .tuple #[.agg (encB x).toArray, .int .i64 0]) (results_cell_tmp Tryd.results15 _ _ (w.heap.size + 1) 25 _ (0, 0) _ _ rfl rfl h4' Tryd.underlying25 rfl HI2.out) rfl ?_
  exact ⟨rfl, HX4.out.2.2.trans hk9 (fun t ht => .inr (by simp at ht; omega))⟩

set_option maxRecDepth 100000 in
set_option maxHeartbeats 2000000 in
theorem rof_none (k : Int) (b : List UInt8) (w : World) (hb : b.length = 64) (h0 : ¬ k = 0) (h1 : ¬ k = 1) (h2 : ¬ k = 2) (h3 : ¬ k = 3) :
    Calls Tryd.prog 15 #[.int .i64 k, .agg (encB b).toArray] w (FpP (fpK k b) (.int .i64 1) w) := by
  have HB := Lib.hid hb
  have HZ := Lib.hid (show (#[.int .u8 0, .int .u8 0, .int .u8 0, .int .u8 0, .int .u8 0, .int .u8 0, .int .u8 0, .int .u8 0, .int .u8 0, .int .u8 0, .int .u8 0, .int .u8 0, .int .u8 0, .int .u8 0, .int .u8 0, .int .u8 0, .int .u8 0, .int .u8 0, .int .u8 0, .int .u8 0, .int .u8 0, .int .u8 0, .int .u8 0, .int .u8 0, .int .u8 0, .int .u8 0, .int .u8 0, .int .u8 0, .int .u8 0, .int .u8 0, .int .u8 0, .int .u8 0] : Array Value) = (encB z32).toArray from zero32k)
  obtain ⟨bs, hbs⟩ : ∃ bs, bs = (encB b).toArray := ⟨_, rfl⟩
  rw [← hbs]
  have HBS := Lib.hid hbs
  have HL := Lib.hid (fpK_len k b)
  have HI := Lib.hid (show (Tryd.prog.info? 25).map (·.size) = some (encB (fpK k b)).length by rw [length_encB, fpK_len]; exact infoPrF)
  have HI2 := Lib.hid (show (Tryd.prog.info? 25).map (·.size) = some (encB (fpK k b)).toArray.size by rw [List.size_toArray]; exact HI.out)
  have HIZ := Lib.hid (show (Tryd.prog.info? 25).map (·.size) = some (encB z32).length by rw [length_encB, z32_len]; exact infoPrF)
  obtain ⟨x, hx⟩ : ∃ x, x = fpK k b := ⟨_, rfl⟩
  rw [← hx] at HL HI HI2 ⊢
  have HX := Lib.hid hx
  have HG0 := Lib.hid (show (((w.alloc (.cells bs 23)).alloc (.cells #[.int .u8 0, .int .u8 0, .int .u8 0, .int .u8 0, .int .u8 0, .int .u8 0, .int .u8 0, .int .u8 0, .int .u8 0, .int .u8 0, .int .u8 0, .int .u8 0, .int .u8 0, .int .u8 0, .int .u8 0, .int .u8 0, .int .u8 0, .int .u8 0, .int .u8 0, .int .u8 0, .int .u8 0, .int .u8 0, .int .u8 0, .int .u8 0, .int .u8 0, .int .u8 0, .int .u8 0, .int .u8 0, .int .u8 0, .int .u8 0, .int .u8 0, .int .u8 0] 25)).alloc (.cells #[.int .u8 0, .int .u8 0, .int .u8 0, .int .u8 0, .int .u8 0, .int .u8 0, .int .u8 0, .int .u8 0, .int .u8 0, .int .u8 0, .int .u8 0, .int .u8 0, .int .u8 0, .int .u8 0, .int .u8 0, .int .u8 0, .int .u8 0, .int .u8 0, .int .u8 0, .int .u8 0, .int .u8 0, .int .u8 0, .int .u8 0, .int .u8 0, .int .u8 0, .int .u8 0, .int .u8 0, .int .u8 0, .int .u8 0, .int .u8 0, .int .u8 0, .int .u8 0] 25)).heap[w.heap.size + 2]? = some (.cells (encB z32).toArray 25 (0, 0)) ∧ Fb w (((w.alloc (.cells bs 23)).alloc (.cells #[.int .u8 0, .int .u8 0, .int .u8 0, .int .u8 0, .int .u8 0, .int .u8 0, .int .u8 0, .int .u8 0, .int .u8 0, .int .u8 0, .int .u8 0, .int .u8 0, .int .u8 0, .int .u8 0, .int .u8 0, .int .u8 0, .int .u8 0, .int .u8 0, .int .u8 0, .int .u8 0, .int .u8 0, .int .u8 0, .int .u8 0, .int .u8 0, .int .u8 0, .int .u8 0, .int .u8 0, .int .u8 0, .int .u8 0, .int .u8 0, .int .u8 0, .int .u8 0] 25)).alloc (.cells #[.int .u8 0, .int .u8 0, .int .u8 0, .int .u8 0, .int .u8 0, .int .u8 0, .int .u8 0, .int .u8 0, .int .u8 0, .int .u8 0, .int .u8 0, .int .u8 0, .int .u8 0, .int .u8 0, .int .u8 0, .int .u8 0, .int .u8 0, .int .u8 0, .int .u8 0, .int .u8 0, .int .u8 0, .int .u8 0, .int .u8 0, .int .u8 0, .int .u8 0, .int .u8 0, .int .u8 0, .int .u8 0, .int .u8 0, .int .u8 0, .int .u8 0, .int .u8 0] 25)) b z32 z32 by
    rw [HZ.out, hbs]; exact ⟨(Fb.start w b).2.2.1, Fb.start w b⟩)
  clear hb hbs hx
  go_enter Tryd.func15, Tryd.ntmps15
  go_upto_region 2 with (refine wpList_store_rowK rfl 25 (.tmp 6) (.tmp 9) rfl (w.heap.size + 2) (encB z32) (encB z32) 25 rfl (congrArg Value.agg zero32k) HG0.out.1 rfl HIZ.out (encB_one _) ?_
                         intro W h2 hk2
                         have HW := Lib.hid (show Fb w W b z32 z32 from ⟨HG0.out.2.1.keeps hk2 (by simp), HG0.out.2.2.1.keeps hk2 (by simp), h2.out, HG0.out.2.2.2.2.trans hk2 (fun t ht => .inr (by simp at ht; omega))⟩)
                         clear h2 hk2 HG0)
  have HX4 := Lib.hid (show BB W (w.heap.size + 2) 25 x ∧ BB W (w.heap.size + 1) 25 z32 ∧ Keeps [] w W from by
    rw [show x = z32 by rw [HX.out]; unfold fpK; rw [if_neg h0, if_neg h1, if_neg h2]]; exact ⟨HW.out.2.2.1, HW.out.2.1, HW.out.2.2.2⟩)
  have e0 : (k == 0) = false := by simp [h0]
  have e1 : (k == 1) = false := by simp [h1]
  have e2 : (k == 2) = false := by simp [h2]
  have e3 : (k == 3) = false := by simp [h3]
  clear h0 h1 h2 h3
  go_wp2_with (first
      | (refine wpList_load_row rfl 25 (.tmp 6) rfl (w.heap.size + 2) rfl 25 (encB x).toArray (0, 0) _ HX4.out.1 Tryd.underlying25 rfl HI2.out ?_)
      | (refine wpList_store_rowK rfl 25 (.tmp 4) (.tmp 40) rfl (w.heap.size + 1) (encB x) (encB z32) 25 rfl rfl HX4.out.2.1 (by rw [length_encB, length_encB, HL.out, z32_len]) HI.out (encB_one _) ?_; intro w9 h9 hk9))
  have h4' : w9.heap[w.heap.size + 1]? = _ := h9.out
  refine bodyPost_ret (v := .tuple #[.agg (encB x).toArray, .int .i64 1]) (results_cell_tmp Tryd.results15 _ _ (w.heap.size + 1) 25 _ (0, 0) _ _ rfl rfl h4' Tryd.underlying25 rfl HI2.out) rfl ?_
  exact ⟨rfl, HX4.out.2.2.trans hk9 (fun t ht => .inr (by simp at ht; omega))⟩

theorem rof_any (k : Int) (b : List UInt8) (w : World) (hb : b.length = 64) :
    Calls Tryd.prog 15 #[.int .i64 k, .agg (encB b).toArray] w (FpP (fpK k b) (.int .i64 (ferr k)) w) := by
  by_cases h0 : k = 0
  · subst h0; exact rof_strong b w hb
  · by_cases h1 : k = 1
    · subst h1; exact rof_weak b w hb
    · by_cases h2 : k = 2
      · subst h2; exact rof_first b w hb
      · by_cases h3 : k = 3
        · subst h3; exact rof_same b w hb
        · have e : ferr k = 1 := by unfold ferr; rw [if_neg h0, if_neg h1, if_neg h2, if_neg h3]
          rw [e]
          exact rof_none k b w hb h0 h1 h2 h3
end Go.Proofs.YtomleanoofoejaaDoor
