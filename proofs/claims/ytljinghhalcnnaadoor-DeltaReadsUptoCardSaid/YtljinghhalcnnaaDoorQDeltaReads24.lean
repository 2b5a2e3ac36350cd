/- The law on parts and bytes, where the bytes tell parts (printed by gen_reads.py). -/
import Derived.Test.YtljinghhalcnnaaDoorQDeltaReads23
import Derived.Test.YtljinghhalcnnaaDoorQDeltaReads15
import Derived.Deep.DeepCutAuto
namespace Go.Proofs.YtljinghhalcnnaaDoor
open Go.RowKit

set_option maxRecDepth 100000 in
set_option maxHeartbeats 64000000 in
theorem readsK_any (base : List UInt8) (hb : base.length = 64) (A : Option Addr) (c : Nat) (ts : List Pt) (Ab : Option Addr) (b : List UInt8) (cb : Nat) (w : World) (hr : Rd w A ts.length 4 (encPt ts)) (hf : ∀ t ∈ ts, t.fine w) (htot : (encE10 (ts.map Pt.p)).length + 100 ≤ 140737488355328) (hn200 : ts.length ≤ 200)
    (hl : b.length ≤ 140737488351232) (hc : b.length ≤ cb) (hrb : RdB w Ab b) (hA : ∀ a, Ab = some a → 0 < b.length → a.block < w.heap.size) (hh : HT w) (qs : List Pa) (hd : decE10 b = .ok qs) :
    Calls Tryd.prog 3 #[.agg (encB base).toArray, .slice A ts.length c, .slice Ab b.length cb] w fun r w' => r = .returned (.bool true) ∧ Keeps [] w w' := by
  have HH := Lib.hid hh
  have HB := Lib.hid hb
  have HD := Lib.hid hd
  have HZ := Lib.hid zero64k
  have HBB := Lib.hid (show b.length ≤ 140737488351232 ∧ b.length ≤ cb ∧ RdB w Ab b ∧ (∀ a, Ab = some a → 0 < b.length → a.block < w.heap.size) from ⟨hl, hc, hrb, hA⟩)
  obtain ⟨ps, hps⟩ : ∃ ps, ps = ts.map Pt.p := ⟨_, rfl⟩
  obtain ⟨n, hn⟩ : ∃ n, n = ts.length := ⟨_, rfl⟩
  have HN := Lib.hid (show n = ts.length ∧ ps = ts.map Pt.p from ⟨hn, hps⟩)
  have HF := Lib.hid (show ∀ p ∈ ps, (-9223372036854775808 ≤ p.fr ∧ p.fr ≤ 9223372036854775807) ∧ (-9223372036854775808 ≤ p.ln ∧ p.ln ≤ 9223372036854775807) from fun p hp => by
    rw [hps] at hp
    obtain ⟨t, ht, rfl⟩ := List.mem_map.1 hp
    exact ⟨(hf t ht).fr, (hf t ht).ln⟩)
  obtain ⟨g, hg⟩ : ∃ g, g = w.heap.size := ⟨_, rfl⟩
  obtain ⟨W, hW⟩ : ∃ W, W = w.alloc (.cells (encB base).toArray 23) := ⟨_, rfl⟩
  have HV := Lib.hid (show W.heap[g]? = some (.cells (encB base).toArray 23 (0, 0)) ∧ Keeps [] w W from ⟨by rw [hW, hg]; exact heap_alloc_new _ _, by rw [hW]; exact (Keeps.refl [] w).alloc _⟩)
  have HR := Lib.hid (And.intro hr hf)
  have HW := Lib.hid (show W = w.alloc (.cells (encB base).toArray 23) ∧ g = w.heap.size from ⟨hW, hg⟩)
  obtain ⟨B, hB⟩ : ∃ B, B = apB base ps := ⟨_, rfl⟩
  obtain ⟨E, hE⟩ : ∃ E, E = apN base ps := ⟨_, rfl⟩
  have HBE := Lib.hid (show B = apB base ps ∧ E = apN base ps from ⟨hB, hE⟩)
  have HB2 := Lib.hid (show B.length = 64 ∧ (Tryd.prog.info? 23).map (·.size) = some (encB B).toArray.size ∧ (Tryd.prog.info? 23).map (·.size) = some (encB base).toArray.size from by
    have h1 : B.length = 64 := by rw [hB]; exact apB_len _ _
    exact ⟨h1, hsz64' B h1, hsz64' base hb⟩)
  obtain ⟨PB, hPB⟩ : ∃ B, B = apB base qs := ⟨_, rfl⟩
  obtain ⟨PE, hPE⟩ : ∃ E, E = apN base qs := ⟨_, rfl⟩
  have HPQ := Lib.hid (show PB = apB base qs ∧ PE = apN base qs ∧ PB.length = 64 from ⟨hPB, hPE, by rw [hPB]; exact apB_len _ _⟩)
  have HQF := Lib.hid (show ∀ p ∈ qs, ((0 ≤ p.fr ∧ p.fr ≤ 64) ∧ (0 ≤ p.ln ∧ p.ln ≤ 64)) ∧ p.b.length ≤ 64 from fun p hp => ⟨decE10_bnd hd p hp, decE10_b hd p hp⟩)
  clear hPB hPE
  rw [← hps] at htot
  rw [← hn] at hn200
  rw [← hn]
  have HT := Lib.hid htot
  clear hr hf hh hb hd hps hn hg hW hB hE hl hc hrb hA htot
  have hbigi : ¬ (200 : Int) < (n : Int) := by omega
  have hn1000 : n ≤ 1000 := by omega
  go_enter Tryd.func3, Tryd.ntmps3
  go_upto_region 1 with fail
  rw [← HW.out.1, ← HW.out.2]
  go_upto_region 5 with (at_builtin; refine wpList_appendB rfl (.tmp 24) (.tmp 25) 25 5 rfl Tryd.underlying25 infoB none 0 [] rfl (OwnB.nil _ _) Ab cb b rfl (HBB.out.2.2.1.keeps0 HV.out.2) (by have := HBB.out.1; simp; omega) ?_; intro Am cm w4 l4 hl4 ho4 hk4 hf4; obtain rfl : b = l4 := hl4.out.symm; have HM := Lib.hid (show OwnB 5 w4 Am cm b ∧ Keeps [] W w4 from ⟨ho4, hk4⟩); clear hl4 ho4 hk4 hf4)
  go_wp2_with fail
  refine (dec_ok HD.out Am cm w4 HBB.out.1 HM.out.1.cap HM.out.1.rd (fun a ha _ => HM.out.1.lt a ha)).mono ?_
  rintro r w5 ⟨Ax, cx, xs, rfl, hop, hxs, hxl⟩
  obtain ⟨m, hm⟩ : ∃ m, m = xs.length := ⟨_, rfl⟩
  have HX := Lib.hid (show OpI w4 w5 Ax cx xs ∧ xs.map Pt.p = qs ∧ m = xs.length ∧ m ≤ 64 from ⟨hop, hxs, hm, by omega⟩)
  have H5 := Lib.hid (show Keeps [] w w5 ∧ Keeps [] w4 w5 from ⟨HV.out.2.trans (HM.out.2.trans hop.kp (by simp)) (by simp), hop.kp⟩)
  rw [← hm]
  clear hop hxs hxl hm
  go_wp2_with fail
  refine (rdec_ok HD.out Ab cb w5 HBB.out.1 HBB.out.2.1 (HBB.out.2.2.1.keeps0 H5.out.1) (fun a ha hp => Nat.lt_of_lt_of_le (HBB.out.2.2.2 a ha hp) H5.out.1.size)).mono ?_
  rintro r w6 ⟨Ay, cy, ys, rfl, hoq, hys, hyl⟩
  have HY := Lib.hid (show OqI w5 w6 Ay cy ys ∧ ys.map Pt.p = qs ∧ ys.length = m from ⟨hoq, hys, by
    have h1 := congrArg List.length (hys.trans HX.out.2.1.symm)
    rw [List.length_map, List.length_map] at h1
    rw [h1]
    exact HX.out.2.2.1.symm⟩)
  rw [HY.out.2.2]
  have hk6 := hoq.kp
  have H6 := Lib.hid (show Keeps [] w w6 ∧ Keeps [] w5 w6 ∧ Keeps [] W w6 from ⟨H5.out.1.trans hk6 (by simp), hk6, HM.out.2.trans (H5.out.2.trans hk6 (by simp)) (by simp)⟩)
  have hm64 : m ≤ 64 := HX.out.2.2.2
  clear hoq hys hyl hk6
  have HR6 := Lib.hid (show Rd w6 A ts.length 4 (encPt ts) ∧ ∀ t ∈ ts, t.fine w6 from ⟨HR.out.1.keeps0 H6.out.1, fun t ht => (HR.out.2 t ht).keeps0 H6.out.1⟩)
  have HV6 := Lib.hid (show w6.heap[g]? = some (.cells (encB base).toArray 23 (0, 0)) from (H6.out.2.2.block g (lt_of_block HV.out.1) (by simp)).trans HV.out.1)
  go_upto_region 7 with fail
  refine seq_start (by kernel_rfl) (fun z => z.heap[g]? = some (.cells (encB base).toArray 23 (0, 0))) 10 [0, 1, 2, 3, 4, 5, 6, 7, 8, 9] rfl (HV6.out) (fun hS => ?_)
  have HV3 := Lib.hid (show w6.drew.heap[g]? = some (.cells (encB base).toArray 23 (0, 0)) ∧ Keeps [] w6 w6.drew from ⟨HV6.out, (Keeps.refl [] w6).drew⟩)
  generalize w6.drew = V at HV3 hS ⊢
  refine seq_take (v := .agg (encB base).toArray) rfl (by kernel_rfl) (by kernel_rfl) (by kernel_rfl) ?_ (by assumption) ?_
  · exact yieldsIf_load_mid (by rfl) 23 (.tmp 3) (by rfl) g 0 (by rfl) (encB base) _ (fun z hz => rangeAt_row2 hz) Tryd.underlying23 rfl (hsz64 base HB.out)
  simp only [Act.put, List.setIfInBounds_toArray, List.set_cons_zero, List.set_cons_succ]
  refine seq_take (v := ?_) rfl (by kernel_rfl) (by kernel_rfl) (by kernel_rfl) (Or.inl ⟨by rfl, fun w' hSw => ?_⟩) (by assumption) ?_
  rotate_left
  · go_simp
    with_reducible rfl
  simp only [Act.put, List.setIfInBounds_toArray, List.set_cons_zero, List.set_cons_succ]
  iterate 4 (refine seq_later2 ?_; simp only [List.cons_append, List.nil_append])
  refine seq_two rfl rfl (by kernel_rfl) (by rfl) (by rfl) (fun K hK => ?_) (fun K hK => ?_)
  rotate_left
  case' _ =>
    go_simp
    obtain ⟨gx, hgx⟩ : ∃ gx, gx = V.heap.size := ⟨_, rfl⟩
    obtain ⟨v4, hw⟩ : ∃ z, z = V.alloc (.cells (encB z64).toArray 23) := ⟨_, rfl⟩
    have hka : Keeps [] V v4 := by rw [hw]; exact (Keeps.refl [] V).alloc _
    have G4 := Lib.hid (show v4.heap[gx]? = some (.cells (encB z64).toArray 23 (0, 0)) ∧ v4.heap[g]? = some (.cells (encB base).toArray 23 (0, 0)) ∧ Keeps [] w6 v4 ∧ w6.heap.size ≤ gx ∧ g ≠ gx from ⟨by rw [hw, hgx]; exact heap_alloc_new _ _, (hka.block g (lt_of_block HV3.out.1) (by simp)).trans HV3.out.1, HV3.out.2.trans hka (by simp), by rw [hgx]; exact HV3.out.2.size, by have h1 := lt_of_block HV3.out.1; omega⟩)
    rw [HZ.out, ← hw, ← hgx]
    clear hw hgx hka
    refine hK.out (fun z => z.heap[g]? = some (.cells (encB base).toArray 23 (0, 0))) _ _ (fun _ h => h) G4.out.2.1 (fun hS => ?_)
    refine seq_do rfl (by kernel_rfl) (by rfl) (fun K hK => ?_)
    go_simp
    refine (give_is A c n ts ps v4 HN.out.1.symm HN.out.2.symm (HR6.out.1.keeps0 G4.out.2.2.1) (fun t ht => (HR6.out.2 t ht).keeps0 G4.out.2.2.1) (by omega)).mono ?_
    rintro r v5 ⟨A4, c4, us, rfl, hop, hul, hus⟩
    have hk := hop.kp
    have G5 := Lib.hid (show v5.heap[gx]? = some (.cells (encB z64).toArray 23 (0, 0)) ∧ v5.heap[g]? = some (.cells (encB base).toArray 23 (0, 0)) ∧ Keeps [] w6 v5 ∧ w6.heap.size ≤ gx ∧ g ≠ gx from ⟨(hk.block gx (lt_of_block G4.out.1) (by simp)).trans G4.out.1, (hk.block g (lt_of_block G4.out.2.1) (by simp)).trans G4.out.2.1, G4.out.2.2.1.trans hk (by simp), G4.out.2.2.2.1, G4.out.2.2.2.2⟩)
    have HU := Lib.hid (show us.length = n ∧ us.map Pt.p = ps ∧ OpI v4 v5 A4 c4 us from ⟨hul, hus, hop⟩)
    clear hop hul hus hk
    refine hK.out (fun z => z.heap[g]? = some (.cells (encB base).toArray 23 (0, 0))) _ _ (fun _ h => h) G5.out.2.1 (fun hS => ?_)
    iterate 2 (refine seq_later ?_; simp only [List.cons_append, List.nil_append])
    refine seq_do rfl (by kernel_rfl) (by rfl) (fun K hK => ?_)
    go_simp
    have HC := apply_is base HB.out A4 c4 n ps us v5 _ HU.out.2.2 HU.out.1 HU.out.2.1 HF.out (by omega)
    rw [← HBE.out.1, ← HBE.out.2] at HC
    refine HC.mono ?_
    clear HC
    rintro r v6 ⟨rfl, hk⟩
    have G6 := Lib.hid (show v6.heap[gx]? = some (.cells (encB z64).toArray 23 (0, 0)) ∧ v6.heap[g]? = some (.cells (encB base).toArray 23 (0, 0)) ∧ Keeps [] w6 v6 ∧ w6.heap.size ≤ gx ∧ g ≠ gx from ⟨(hk.block gx (lt_of_block G5.out.1) (by simp)).trans G5.out.1, (hk.block g (lt_of_block G5.out.2.1) (by simp)).trans G5.out.2.1, G5.out.2.2.1.trans hk (by simp), G5.out.2.2.2.1, G5.out.2.2.2.2⟩)
    clear hk
    refine hK.out (fun z => z.heap[g]? = some (.cells (encB base).toArray 23 (0, 0))) _ _ (fun _ h => h) G6.out.2.1 (fun hS => ?_)
    refine seq_take (v := ?_) rfl (by kernel_rfl) (by kernel_rfl) (by kernel_rfl) (Or.inl ⟨by rfl, fun w' hSw => ?_⟩) (by assumption) ?_
    rotate_left
    · go_simp
      with_reducible rfl
    simp only [Act.put, List.setIfInBounds_toArray, List.set_cons_zero, List.set_cons_succ]
    refine seq_take (v := ?_) rfl (by kernel_rfl) (by kernel_rfl) (by kernel_rfl) (Or.inl ⟨by rfl, fun w' hSw => ?_⟩) (by assumption) ?_
    rotate_left
    · go_simp
      with_reducible rfl
    simp only [Act.put, List.setIfInBounds_toArray, List.set_cons_zero, List.set_cons_succ]
    refine seq_take (v := ?_) rfl (by kernel_rfl) (by kernel_rfl) (by kernel_rfl) (Or.inl ⟨by rfl, fun w' hSw => ?_⟩) (by assumption) ?_
    rotate_left
    · go_simp
      with_reducible rfl
    simp only [Act.put, List.setIfInBounds_toArray, List.set_cons_zero, List.set_cons_succ]
    refine seq_do rfl (by kernel_rfl) (by rfl) (fun K hK => ?_)
    refine op_store_rowK 23 (.tmp 12) (.tmp 42) rfl gx (encB B) (encB z64) 23 rfl rfl G6.out.1 (by rw [length_encB, length_encB, HB2.out.1]; rfl) (hsz64 B HB2.out.1) (encB_one _) ?_
    intro v7 h7 hk7
    have G7 := Lib.hid (show v7.heap[gx]? = some (.cells (encB B).toArray 23 (0, 0)) ∧ v7.heap[g]? = some (.cells (encB base).toArray 23 (0, 0)) ∧ Keeps [] w6 v7 from ⟨h7.out, (hk7.block g (lt_of_block G6.out.2.1) (by simp only [List.mem_singleton]; exact G6.out.2.2.2.2)).trans G6.out.2.1, G6.out.2.2.1.trans hk7 (fun t ht => .inr (by simp at ht; rw [ht]; exact G6.out.2.2.2.1))⟩)
    clear h7 hk7
    refine hK.out (fun z => z.heap[g]? = some (.cells (encB base).toArray 23 (0, 0))) _ _ (fun _ h => h) G7.out.2.1 (fun hS => ?_)
    refine seq_take (v := ?_) rfl (by kernel_rfl) (by kernel_rfl) (by kernel_rfl) (Or.inl ⟨by rfl, fun w' hSw => ?_⟩) (by assumption) ?_
    rotate_left
    · go_simp
      with_reducible rfl
    simp only [Act.put, List.setIfInBounds_toArray, List.set_cons_zero, List.set_cons_succ]
    refine seq_done (by kernel_rfl) ?_
    all_goals skip
    clear hS
  rotate_left
  case' _ =>
    go_simp
    refine (give_is A c n ts ps V HN.out.1.symm HN.out.2.symm (HR6.out.1.keeps0 HV3.out.2) (fun t ht => (HR6.out.2 t ht).keeps0 HV3.out.2) (by omega)).mono ?_
    rintro r v4 ⟨A4, c4, us, rfl, hop, hul, hus⟩
    have hk := hop.kp
    have G4 := Lib.hid (show v4.heap[g]? = some (.cells (encB base).toArray 23 (0, 0)) ∧ Keeps [] w6 v4 from ⟨(hk.block g (lt_of_block HV3.out.1) (by simp)).trans HV3.out.1, HV3.out.2.trans hk (by simp)⟩)
    have HU := Lib.hid (show us.length = n ∧ us.map Pt.p = ps ∧ OpI V v4 A4 c4 us from ⟨hul, hus, hop⟩)
    clear hop hul hus hk
    refine hK.out (fun z => z.heap[g]? = some (.cells (encB base).toArray 23 (0, 0))) _ _ (fun _ h => h) G4.out.1 (fun hS => ?_)
    iterate 3 (refine seq_later ?_; simp only [List.cons_append, List.nil_append])
    iterate 3 (refine seq_later2 ?_; simp only [List.cons_append, List.nil_append])
    refine seq_two rfl rfl (by kernel_rfl) (by rfl) (by rfl) (fun K hK => ?_) (fun K hK => ?_)
    rotate_left
    case' _ =>
      go_simp
      obtain ⟨gx, hgx⟩ : ∃ gx, gx = v4.heap.size := ⟨_, rfl⟩
      obtain ⟨v5, hw⟩ : ∃ z, z = v4.alloc (.cells (encB z64).toArray 23) := ⟨_, rfl⟩
      have hka : Keeps [] v4 v5 := by rw [hw]; exact (Keeps.refl [] v4).alloc _
      have G5k := Lib.hid hka
      have G5 := Lib.hid (show v5.heap[gx]? = some (.cells (encB z64).toArray 23 (0, 0)) ∧ v5.heap[g]? = some (.cells (encB base).toArray 23 (0, 0)) ∧ Keeps [] w6 v5 ∧ w6.heap.size ≤ gx ∧ g ≠ gx from ⟨by rw [hw, hgx]; exact heap_alloc_new _ _, (hka.block g (lt_of_block G4.out.1) (by simp)).trans G4.out.1, G4.out.2.trans hka (by simp), by rw [hgx]; exact G4.out.2.size, by have h1 := lt_of_block G4.out.1; omega⟩)
      rw [HZ.out, ← hw, ← hgx]
      clear hw hgx hka
      refine hK.out (fun z => z.heap[g]? = some (.cells (encB base).toArray 23 (0, 0))) _ _ (fun _ h => h) G5.out.2.1 (fun hS => ?_)
      have HU := Lib.hid (show us.length = n ∧ us.map Pt.p = ps ∧ OpI V v5 A4 c4 us from ⟨HU.out.1, HU.out.2.1, HU.out.2.2.keeps0 G5k.out⟩)
      refine seq_do rfl (by kernel_rfl) (by rfl) (fun K hK => ?_)
      go_simp
      have HC := apply_is base HB.out A4 c4 n ps us v5 _ HU.out.2.2 HU.out.1 HU.out.2.1 HF.out (by omega)
      rw [← HBE.out.1, ← HBE.out.2] at HC
      refine HC.mono ?_
      clear HC
      rintro r v6 ⟨rfl, hk⟩
      have G6 := Lib.hid (show v6.heap[gx]? = some (.cells (encB z64).toArray 23 (0, 0)) ∧ v6.heap[g]? = some (.cells (encB base).toArray 23 (0, 0)) ∧ Keeps [] w6 v6 ∧ w6.heap.size ≤ gx ∧ g ≠ gx from ⟨(hk.block gx (lt_of_block G5.out.1) (by simp)).trans G5.out.1, (hk.block g (lt_of_block G5.out.2.1) (by simp)).trans G5.out.2.1, G5.out.2.2.1.trans hk (by simp), G5.out.2.2.2.1, G5.out.2.2.2.2⟩)
      clear hk
      refine hK.out (fun z => z.heap[g]? = some (.cells (encB base).toArray 23 (0, 0))) _ _ (fun _ h => h) G6.out.2.1 (fun hS => ?_)
      iterate 2 (refine seq_later ?_; simp only [List.cons_append, List.nil_append])
      refine seq_take (v := ?_) rfl (by kernel_rfl) (by kernel_rfl) (by kernel_rfl) (Or.inl ⟨by rfl, fun w' hSw => ?_⟩) (by assumption) ?_
      rotate_left
      · go_simp
        with_reducible rfl
      simp only [Act.put, List.setIfInBounds_toArray, List.set_cons_zero, List.set_cons_succ]
      refine seq_take (v := ?_) rfl (by kernel_rfl) (by kernel_rfl) (by kernel_rfl) (Or.inl ⟨by rfl, fun w' hSw => ?_⟩) (by assumption) ?_
      rotate_left
      · go_simp
        with_reducible rfl
      simp only [Act.put, List.setIfInBounds_toArray, List.set_cons_zero, List.set_cons_succ]
      refine seq_take (v := ?_) rfl (by kernel_rfl) (by kernel_rfl) (by kernel_rfl) (Or.inl ⟨by rfl, fun w' hSw => ?_⟩) (by assumption) ?_
      rotate_left
      · go_simp
        with_reducible rfl
      simp only [Act.put, List.setIfInBounds_toArray, List.set_cons_zero, List.set_cons_succ]
      refine seq_do rfl (by kernel_rfl) (by rfl) (fun K hK => ?_)
      refine op_store_rowK 23 (.tmp 12) (.tmp 42) rfl gx (encB B) (encB z64) 23 rfl rfl G6.out.1 (by rw [length_encB, length_encB, HB2.out.1]; rfl) (hsz64 B HB2.out.1) (encB_one _) ?_
      intro v7 h7 hk7
      have G7 := Lib.hid (show v7.heap[gx]? = some (.cells (encB B).toArray 23 (0, 0)) ∧ v7.heap[g]? = some (.cells (encB base).toArray 23 (0, 0)) ∧ Keeps [] w6 v7 from ⟨h7.out, (hk7.block g (lt_of_block G6.out.2.1) (by simp only [List.mem_singleton]; exact G6.out.2.2.2.2)).trans G6.out.2.1, G6.out.2.2.1.trans hk7 (fun t ht => .inr (by simp at ht; rw [ht]; exact G6.out.2.2.2.1))⟩)
      clear h7 hk7
      refine hK.out (fun z => z.heap[g]? = some (.cells (encB base).toArray 23 (0, 0))) _ _ (fun _ h => h) G7.out.2.1 (fun hS => ?_)
      refine seq_take (v := ?_) rfl (by kernel_rfl) (by kernel_rfl) (by kernel_rfl) (Or.inl ⟨by rfl, fun w' hSw => ?_⟩) (by assumption) ?_
      rotate_left
      · go_simp
        with_reducible rfl
      simp only [Act.put, List.setIfInBounds_toArray, List.set_cons_zero, List.set_cons_succ]
      refine seq_done (by kernel_rfl) ?_
      all_goals skip
      clear hS
    rotate_left
    case' _ =>
      go_simp
      have HC := apply_is base HB.out A4 c4 n ps us v4 _ HU.out.2.2 HU.out.1 HU.out.2.1 HF.out (by omega)
      rw [← HBE.out.1, ← HBE.out.2] at HC
      refine HC.mono ?_
      clear HC
      rintro r v5 ⟨rfl, hk⟩
      have G5 := Lib.hid (show v5.heap[g]? = some (.cells (encB base).toArray 23 (0, 0)) ∧ Keeps [] w6 v5 from ⟨(hk.block g (lt_of_block G4.out.1) (by simp)).trans G4.out.1, G4.out.2.trans hk (by simp)⟩)
      clear hk
      refine hK.out (fun z => z.heap[g]? = some (.cells (encB base).toArray 23 (0, 0))) _ _ (fun _ h => h) G5.out.1 (fun hS => ?_)
      iterate 3 (refine seq_later ?_; simp only [List.cons_append, List.nil_append])
      refine seq_take (v := ?_) rfl (by kernel_rfl) (by kernel_rfl) (by kernel_rfl) (Or.inl ⟨by rfl, fun w' hSw => ?_⟩) (by assumption) ?_
      rotate_left
      · go_simp
        with_reducible rfl
      simp only [Act.put, List.setIfInBounds_toArray, List.set_cons_zero, List.set_cons_succ]
      refine seq_take (v := ?_) rfl (by kernel_rfl) (by kernel_rfl) (by kernel_rfl) (Or.inl ⟨by rfl, fun w' hSw => ?_⟩) (by assumption) ?_
      rotate_left
      · go_simp
        with_reducible rfl
      simp only [Act.put, List.setIfInBounds_toArray, List.set_cons_zero, List.set_cons_succ]
      refine seq_take (v := ?_) rfl (by kernel_rfl) (by kernel_rfl) (by kernel_rfl) (Or.inl ⟨by rfl, fun w' hSw => ?_⟩) (by assumption) ?_
      rotate_left
      · go_simp
        with_reducible rfl
      simp only [Act.put, List.setIfInBounds_toArray, List.set_cons_zero, List.set_cons_succ]
      refine seq_do rfl (by kernel_rfl) (by rfl) (fun K hK => ?_)
      go_simp
      obtain ⟨gx, hgx⟩ : ∃ gx, gx = v5.heap.size := ⟨_, rfl⟩
      obtain ⟨v6, hw⟩ : ∃ z, z = v5.alloc (.cells (encB z64).toArray 23) := ⟨_, rfl⟩
      have hka : Keeps [] v5 v6 := by rw [hw]; exact (Keeps.refl [] v5).alloc _
      have G6 := Lib.hid (show v6.heap[gx]? = some (.cells (encB z64).toArray 23 (0, 0)) ∧ v6.heap[g]? = some (.cells (encB base).toArray 23 (0, 0)) ∧ Keeps [] w6 v6 ∧ w6.heap.size ≤ gx ∧ g ≠ gx from ⟨by rw [hw, hgx]; exact heap_alloc_new _ _, (hka.block g (lt_of_block G5.out.1) (by simp)).trans G5.out.1, G5.out.2.trans hka (by simp), by rw [hgx]; exact G5.out.2.size, by have h1 := lt_of_block G5.out.1; omega⟩)
      rw [HZ.out, ← hw, ← hgx]
      clear hw hgx hka
      refine hK.out (fun z => z.heap[g]? = some (.cells (encB base).toArray 23 (0, 0))) _ _ (fun _ h => h) G6.out.2.1 (fun hS => ?_)
      refine seq_do rfl (by kernel_rfl) (by rfl) (fun K hK => ?_)
      refine op_store_rowK 23 (.tmp 12) (.tmp 42) rfl gx (encB B) (encB z64) 23 rfl rfl G6.out.1 (by rw [length_encB, length_encB, HB2.out.1]; rfl) (hsz64 B HB2.out.1) (encB_one _) ?_
      intro v7 h7 hk7
      have G7 := Lib.hid (show v7.heap[gx]? = some (.cells (encB B).toArray 23 (0, 0)) ∧ v7.heap[g]? = some (.cells (encB base).toArray 23 (0, 0)) ∧ Keeps [] w6 v7 from ⟨h7.out, (hk7.block g (lt_of_block G6.out.2.1) (by simp only [List.mem_singleton]; exact G6.out.2.2.2.2)).trans G6.out.2.1, G6.out.2.2.1.trans hk7 (fun t ht => .inr (by simp at ht; rw [ht]; exact G6.out.2.2.2.1))⟩)
      clear h7 hk7
      refine hK.out (fun z => z.heap[g]? = some (.cells (encB base).toArray 23 (0, 0))) _ _ (fun _ h => h) G7.out.2.1 (fun hS => ?_)
      refine seq_take (v := ?_) rfl (by kernel_rfl) (by kernel_rfl) (by kernel_rfl) (Or.inl ⟨by rfl, fun w' hSw => ?_⟩) (by assumption) ?_
      rotate_left
      · go_simp
        with_reducible rfl
      simp only [Act.put, List.setIfInBounds_toArray, List.set_cons_zero, List.set_cons_succ]
      refine seq_done (by kernel_rfl) ?_
      all_goals skip
      clear hS
  all_goals
    clear hK
    have K7 := Lib.hid (show Keeps [] w v7 from H6.out.1.trans G7.out.2.2 (by simp))
    go_wp2_with (refine wpList_load_row rfl 23 (.tmp 3) rfl g rfl 23 (encB base).toArray (0, 0) _ G7.out.2.1 Tryd.underlying23 rfl HB2.out.2.2 ?_)
    have HC := rapply_is base HB.out A c n ts ps v7 HN.out.1.symm HN.out.2.symm (HR6.out.1.keeps0 G7.out.2.2) (fun t ht => (HR6.out.2 t ht).keeps0 G7.out.2.2) (by omega)
    rw [← HBE.out.1, ← HBE.out.2] at HC
    refine HC.mono ?_
    clear HC
    rintro r w8 ⟨rfl, hk8⟩
    have H8 := Lib.hid (show Keeps [] v7 w8 from hk8)
    have HBN := Lib.hid (show (Tryd.prog.info? 23).map (·.size) = some (encB B).length from hsz64 B HB2.out.1)
    obtain ⟨g14, hg14⟩ : ∃ g, g = w8.heap.size := ⟨_, rfl⟩
    have HG14 := Lib.hid hg14
    clear hk8 hg14
    go_upto_region 9 with (refine wpList_store_rowK rfl 23 (.tmp 14) (.tmp 48) rfl w8.heap.size (encB B) (encB z64) 23 rfl rfl (by rw [HZ.out]; exact heap_alloc_new _ _) (by rw [length_encB, length_encB, HB2.out.1]; rfl) HBN.out (encB_one _) ?_; intro w9 h9 hk9; have H90 := Lib.hid (And.intro h9.out ((Keeps.refl [] w8).fresh1 hk9)); clear h9 hk9)
    rw [← HG14.out]
    have H9 := Lib.hid (show Keeps [] v7 w9 ∧ Keeps [] w w9 ∧ w9.heap[g14]? = some (.cells (encB B).toArray 23 (0, 0)) ∧ w9.heap[g]? = some (.cells (encB base).toArray 23 (0, 0)) ∧ Keeps [] w6 w9 from by
      have h1 : Keeps [] v7 w9 := H8.out.trans H90.out.2 (by simp)
      exact ⟨h1, K7.out.trans h1 (by simp), by rw [HG14.out]; exact H90.out.1, (h1.block g (lt_of_block G7.out.2.1) (by simp)).trans G7.out.2.1, G7.out.2.2.trans h1 (by simp)⟩)
    clear H90 H8
    go_wp2_with (refine wpList_load_row rfl 23 (.tmp 3) rfl g rfl 23 (encB base).toArray (0, 0) _ H9.out.2.2.2.1 Tryd.underlying23 rfl HB2.out.2.2 ?_)
    have KM := Lib.hid (show Keeps [] w4 w9 from H5.out.2.trans (H6.out.2.1.trans H9.out.2.2.2.2 (by simp)) (by simp))
    have HC := patch_ok HD.out base HB.out Am cm w9 HBB.out.1 HM.out.1.cap (HM.out.1.keeps0 KM.out).rd (fun a ha _ => (HM.out.1.keeps0 KM.out).lt a ha)
    rw [← HPQ.out.1, ← HPQ.out.2.1] at HC
    refine HC.mono ?_
    clear HC
    rintro r w10 ⟨rfl, hk10⟩
    have H10 := Lib.hid hk10
    have HPN := Lib.hid (show (Tryd.prog.info? 23).map (·.size) = some (encB PB).length from hsz64 PB HPQ.out.2.2)
    obtain ⟨g16, hg16⟩ : ∃ g, g = w10.heap.size := ⟨_, rfl⟩
    have HG16 := Lib.hid hg16
    clear hk10 hg16
    go_upto_region 10 with (refine wpList_store_rowK rfl 23 (.tmp 16) (.tmp 54) rfl w10.heap.size (encB PB) (encB z64) 23 rfl rfl (by rw [HZ.out]; exact heap_alloc_new _ _) (by rw [length_encB, length_encB, HPQ.out.2.2]; rfl) HPN.out (encB_one _) ?_; intro w11 h9 hk9; have H110 := Lib.hid (And.intro h9.out ((Keeps.refl [] w10).fresh1 hk9)); clear h9 hk9)
    rw [← HG16.out]
    have H11 := Lib.hid (show Keeps [] w9 w11 ∧ w11.heap[g16]? = some (.cells (encB PB).toArray 23 (0, 0)) ∧ w11.heap[g]? = some (.cells (encB base).toArray 23 (0, 0)) ∧ Keeps [] w6 w11 from by
      have h1 : Keeps [] w9 w11 := H10.out.trans H110.out.2 (by simp)
      exact ⟨h1, by rw [HG16.out]; exact H110.out.1, (h1.block g (lt_of_block H9.out.2.2.2.1) (by simp)).trans H9.out.2.2.2.1, H9.out.2.2.2.2.trans h1 (by simp)⟩)
    clear H110 H10
    go_wp2_with (refine wpList_load_row rfl 23 (.tmp 3) rfl g rfl 23 (encB base).toArray (0, 0) _ H11.out.2.2.1 Tryd.underlying23 rfl HB2.out.2.2 ?_)
    have HC := rapply_q base HB.out Ay cy m ys qs w11 HY.out.2.2 HY.out.2.1 ((Rd.of_own HY.out.1.own).keeps0 H11.out.2.2.2) (fun t ht => (HY.out.1.rd t ht).1.keeps0 H11.out.2.2.2) HQF.out (by omega)
    rw [← HPQ.out.1, ← HPQ.out.2.1] at HC
    refine HC.mono ?_
    clear HC
    rintro r w12 ⟨rfl, hk12⟩
    have H12 := Lib.hid hk12
    have HQN := Lib.hid (show (Tryd.prog.info? 23).map (·.size) = some (encB PB).length from hsz64 PB HPQ.out.2.2)
    obtain ⟨g18, hg18⟩ : ∃ g, g = w12.heap.size := ⟨_, rfl⟩
    have HG18 := Lib.hid hg18
    clear hk12 hg18
    go_upto_region 11 with (refine wpList_store_rowK rfl 23 (.tmp 18) (.tmp 60) rfl w12.heap.size (encB PB) (encB z64) 23 rfl rfl (by rw [HZ.out]; exact heap_alloc_new _ _) (by rw [length_encB, length_encB, HPQ.out.2.2]; rfl) HQN.out (encB_one _) ?_; intro w13 h9 hk9; have H130 := Lib.hid (And.intro h9.out ((Keeps.refl [] w12).fresh1 hk9)); clear h9 hk9)
    rw [← HG18.out]
    have H13 := Lib.hid (show Keeps [] w11 w13 ∧ w13.heap[g18]? = some (.cells (encB PB).toArray 23 (0, 0)) ∧ w11.heap.size ≤ g18 from ⟨H12.out.trans H130.out.2 (by simp), by rw [HG18.out]; exact H130.out.1, by rw [HG18.out]; exact H12.out.size⟩)
    clear H130 H12
    go_upto_region 13 with fail
    have H14 := Lib.hid (show Keeps [] w11 w13 ∧ w13.heap[g18]? = some (.cells (encB PB).toArray 23 (0, 0)) from ⟨H13.out.1, H13.out.2.1⟩)
    obtain ⟨wa, hwa⟩ : ∃ z, z = w13 := ⟨_, rfl⟩
    rw [← hwa] at H14 ⊢
    clear hwa H13
    have HA := Lib.hid (show Keeps [] w6 wa ∧ Keeps [] w wa ∧ wa.heap[gx]? = some (.cells (encB B).toArray 23 (0, 0)) ∧ wa.heap[g14]? = some (.cells (encB B).toArray 23 (0, 0)) ∧ wa.heap[g16]? = some (.cells (encB PB).toArray 23 (0, 0)) ∧ Keeps [] w4 wa from by
      have h1 : Keeps [] w9 wa := H11.out.1.trans H14.out.1 (by simp)
      have h2 : Keeps [] v7 wa := H9.out.1.trans h1 (by simp)
      exact ⟨G7.out.2.2.trans h2 (by simp), K7.out.trans h2 (by simp), (h2.block gx (lt_of_block G7.out.1) (by simp)).trans G7.out.1, (h1.block g14 (lt_of_block H9.out.2.2.1) (by simp)).trans H9.out.2.2.1, (H14.out.1.block g16 (lt_of_block H11.out.2.1) (by simp)).trans H11.out.2.1, KM.out.trans h1 (by simp)⟩)
    have feB : ∀ v, (binOp .eql 23 (.agg (encB B).toArray) (.agg (encB B).toArray)).run Tryd.prog v = .ok (.bool true) v := fun v => by
      rw [eq_blkd v _ _ HB2.out.1 HB2.out.1]
      simp
    have fgB : ∀ y1 y2 v, (eqGuard .eql 23 y1 y2 (.agg (encB B).toArray) (.agg (encB B).toArray)).run Tryd.prog v = .ok () v := fun y1 y2 v => run_eqGuard_arr (P := Tryd.prog) v guard_blkd .eql y1 y2 _ _
    have feP : ∀ v, (binOp .eql 23 (.agg (encB PB).toArray) (.agg (encB PB).toArray)).run Tryd.prog v = .ok (.bool true) v := fun v => by
      rw [eq_blkd v _ _ HPQ.out.2.2 HPQ.out.2.2]
      simp
    have fgP : ∀ y1 y2 v, (eqGuard .eql 23 y1 y2 (.agg (encB PB).toArray) (.agg (encB PB).toArray)).run Tryd.prog v = .ok () v := fun y1 y2 v => run_eqGuard_arr (P := Tryd.prog) v guard_blkd .eql y1 y2 _ _
    refine seq_start (by kernel_rfl) (fun z => Keeps [] wa z) 52 [0, 1, 2, 3, 4, 5, 6, 7, 8, 9, 10, 11, 12, 13, 14, 15, 16, 17, 18, 19, 20, 21, 22, 23, 24, 25, 26, 27, 28, 29, 30, 31, 32, 33, 34, 35, 36, 37, 38, 39, 40, 41, 42, 43, 44, 45, 46, 47, 48, 49, 50, 51] rfl ((Keeps.refl [] wa).drew) (fun hS => ?_)
    refine seq_take (v := ?_) rfl (by kernel_rfl) (by kernel_rfl) (by kernel_rfl) (Or.inl ⟨by rfl, fun w' hSw => ?_⟩) (by assumption) ?_
    rotate_left
    · go_simp
      with_reducible rfl
    simp only [Act.put, List.setIfInBounds_toArray, List.set_cons_zero, List.set_cons_succ]
    iterate 3 (refine seq_later ?_; simp only [List.cons_append, List.nil_append])
    refine seq_take (v := ?_) rfl (by kernel_rfl) (by kernel_rfl) (by kernel_rfl) (Or.inl ⟨by rfl, fun w' hSw => ?_⟩) (by assumption) ?_
    rotate_left
    · go_simp
      with_reducible rfl
    simp only [Act.put, List.setIfInBounds_toArray, List.set_cons_zero, List.set_cons_succ]
    iterate 47 (refine seq_later ?_; simp only [List.cons_append, List.nil_append])
    refine seq_do rfl (by kernel_rfl) (by rfl) (fun K hK => ?_)
    go_simp
    refine (give_is A c n ts ps wa.drew HN.out.1.symm HN.out.2.symm (HR6.out.1.keeps0 HA.out.1.drew) (fun t ht => (HR6.out.2 t ht).keeps0 HA.out.1.drew) (by omega)).mono ?_
    rintro r wb ⟨A5, c5, us, rfl, hop, hul, hus⟩
    have HU := Lib.hid (show OpI wa.drew wb A5 c5 us ∧ us.map Pt.p = ps ∧ us.length = n ∧ Keeps [] wa wb from ⟨hop, hus, hul, (Keeps.refl [] wa).drew.trans hop.kp (by simp)⟩)
    clear hop hul hus
    refine hK.out (fun z => Keeps [] wa z) _ _ (fun _ h => h) HU.out.2.2.2 (fun hS => ?_)
    refine seq_do rfl (by kernel_rfl) (by rfl) (fun K hK => ?_)
    go_simp
    have HC := enc_any A5 c5 us wb (Rd.of_own HU.out.1.own) (fun t ht => (HU.out.1.rd t ht).1.rd) (by have := HU.out.2.2.1; omega) (by rw [HU.out.2.1]; exact HT.out)
    rw [HU.out.2.1, HU.out.2.2.1] at HC
    refine HC.mono ?_
    clear HC
    rintro r wc ⟨A6, c6, l6, hl6, rfl, ho6, hn6, hk6⟩
    have HC6 := Lib.hid (show l6 = encE10 ps ∧ Keeps [] wa wc from ⟨hl6.out, HU.out.2.2.2.trans hk6 (by simp)⟩)
    have F6 := conv_keeps (P := Tryd.prog) (dst := 9) Tryd.underlying25 Tryd.underlying5 Tryd.underlying9 ho6.rd c6
    clear hl6 ho6 hn6 hk6
    refine hK.out (fun z => Keeps [] wc z) _ _ (fun _ h => HC6.out.2.trans h (by simp)) (Keeps.refl [] wc) (fun hS => ?_)
    refine seq_take (v := ?_) rfl (by kernel_rfl) (by kernel_rfl) (by kernel_rfl) (Or.inl ⟨by rfl, fun w' hSw => ?_⟩) (by assumption) ?_
    rotate_left
    · go_simp
      with_reducible rfl
    simp only [Act.put, List.setIfInBounds_toArray, List.set_cons_zero, List.set_cons_succ]
    refine seq_do rfl (by kernel_rfl) (by rfl) (fun K hK => ?_)
    go_simp
    have HC := renc_any A c ts wc (HR6.out.1.keeps0 (HA.out.1.trans HC6.out.2 (by simp))) (fun t ht => ((HR6.out.2 t ht).keeps0 (HA.out.1.trans HC6.out.2 (by simp))).rd) (by have := HN.out.1; omega) (by rw [← HN.out.2]; exact HT.out)
    rw [← HN.out.1, ← HN.out.2, ← HC6.out.1] at HC
    refine HC.mono ?_
    clear HC
    rintro r wd ⟨A7, c7, l7, hl7, rfl, ho7, hn7, hk7⟩
    obtain rfl : l7 = l6 := hl7.out
    have HWD := Lib.hid (show Keeps [] wc wd ∧ Keeps [] wa wd from ⟨hk7, HC6.out.2.trans hk7 (by simp)⟩)
    have F7 := conv_keeps (P := Tryd.prog) (dst := 9) Tryd.underlying25 Tryd.underlying5 Tryd.underlying9 ho7.rd c7
    clear hl7 ho7 hn7 hk7 F6
    refine hK.out (fun z => Keeps [] wd z) _ _ (fun _ h => HWD.out.1.trans h (by simp)) (Keeps.refl [] wd) (fun hS => ?_)
    refine seq_take (v := ?_) rfl (by kernel_rfl) (by kernel_rfl) (by kernel_rfl) (Or.inl ⟨by rfl, fun w' hSw => ?_⟩) (by assumption) ?_
    rotate_left
    · go_simp
      with_reducible rfl
    simp only [Act.put, List.setIfInBounds_toArray, List.set_cons_zero, List.set_cons_succ]
    refine seq_take (v := ?_) rfl (by kernel_rfl) (by kernel_rfl) (by kernel_rfl) (Or.inl ⟨by rfl, fun w' hSw => ?_⟩) (by assumption) ?_
    rotate_left
    · go_simp
      with_reducible rfl
    simp only [Act.put, List.setIfInBounds_toArray, List.set_cons_zero, List.set_cons_succ]
    refine seq_take (v := ?_) rfl (by kernel_rfl) (by kernel_rfl) (by kernel_rfl) (Or.inl ⟨by rfl, fun w' hSw => ?_⟩) (by assumption) ?_
    rotate_left
    · go_simp
      with_reducible rfl
    simp only [Act.put, List.setIfInBounds_toArray, List.set_cons_zero, List.set_cons_succ]
    refine seq_take (v := ?_) rfl (by kernel_rfl) (by kernel_rfl) (by kernel_rfl) (Or.inl ⟨by rfl, fun w' hSw => ?_⟩) (by assumption) ?_
    rotate_left
    · go_simp
      with_reducible rfl
    simp only [Act.put, List.setIfInBounds_toArray, List.set_cons_zero, List.set_cons_succ]
    refine seq_take (v := ?_) rfl (by kernel_rfl) (by kernel_rfl) (by kernel_rfl) (Or.inl ⟨by rfl, fun w' hSw => ?_⟩) (by assumption) ?_
    rotate_left
    · go_simp
      with_reducible rfl
    simp only [Act.put, List.setIfInBounds_toArray, List.set_cons_zero, List.set_cons_succ]
    refine seq_do rfl (by kernel_rfl) (by rfl) (fun K hK => ?_)
    go_simp
    have k6d : Keeps [] w6 wd := HA.out.1.trans HWD.out.2 (by simp)
    have HX6 := HX.out.1.keeps0 (H6.out.2.1.trans k6d (by simp))
    have HC := same_is Ax Ay cx cy m xs ys qs wd HX.out.2.2.1.symm HY.out.2.2 (Rd.of_own HX6.own) (fun t ht => (HX6.rd t ht).1.rd) ((Rd.of_own HY.out.1.own).keeps0 k6d) (fun t ht => (HY.out.1.rd t ht).1.keeps0 k6d) (by omega) HX.out.2.1 HY.out.2.1
    clear HX6 k6d
    refine HC.mono ?_
    clear HC
    rintro r we ⟨rfl, hke⟩
    have HWE := Lib.hid (show Keeps [] wd we ∧ Keeps [] wa we from ⟨hke, HWD.out.2.trans hke (by simp)⟩)
    clear hke F7
    refine hK.out (fun z => Keeps [] we z) _ _ (fun _ h => HWE.out.1.trans h (by simp)) (Keeps.refl [] we) (fun hS => ?_)
    refine seq_take (v := ?_) rfl (by kernel_rfl) (by kernel_rfl) (by kernel_rfl) (Or.inl ⟨by rfl, fun w' hSw => ?_⟩) (by assumption) ?_
    rotate_left
    · go_simp
      with_reducible rfl
    simp only [Act.put, List.setIfInBounds_toArray, List.set_cons_zero, List.set_cons_succ]
    refine seq_take (v := ?_) rfl (by kernel_rfl) (by kernel_rfl) (by kernel_rfl) (Or.inl ⟨by rfl, fun w' hSw => ?_⟩) (by assumption) ?_
    rotate_left
    · go_simp
      with_reducible rfl
    simp only [Act.put, List.setIfInBounds_toArray, List.set_cons_zero, List.set_cons_succ]
    refine seq_take (v := ?_) rfl (by kernel_rfl) (by kernel_rfl) (by kernel_rfl) (Or.inl ⟨by rfl, fun w' hSw => ?_⟩) (by assumption) ?_
    rotate_left
    · go_simp
      with_reducible rfl
    simp only [Act.put, List.setIfInBounds_toArray, List.set_cons_zero, List.set_cons_succ]
    iterate 1 (refine seq_later ?_; simp only [List.cons_append, List.nil_append])
    refine seq_take (v := ?_) rfl (by kernel_rfl) (by kernel_rfl) (by kernel_rfl) (Or.inl ⟨by rfl, fun w' hSw => ?_⟩) (by assumption) ?_
    rotate_left
    · go_simp
      with_reducible rfl
    simp only [Act.put, List.setIfInBounds_toArray, List.set_cons_zero, List.set_cons_succ]
    iterate 35 (refine seq_later ?_; simp only [List.cons_append, List.nil_append])
    refine seq_do rfl (by kernel_rfl) (by rfl) (fun K hK => ?_)
    go_simp
    refine (num_nil _).mono ?_
    rintro r wf ⟨rfl, hkf⟩
    have HWF := Lib.hid (show Keeps [] we wf ∧ Keeps [] wa wf from ⟨hkf, HWE.out.2.trans hkf (by simp)⟩)
    clear hkf
    have R12 : ∀ z, Keeps [] wf z → z.heap[gx]? = some (.cells (encB B).toArray 23 (0, 0)) := fun z hz => ((HWF.out.2.trans hz (by simp)).block gx (lt_of_block HA.out.2.2.1) (by simp)).trans HA.out.2.2.1
    have R14 : ∀ z, Keeps [] wf z → z.heap[g14]? = some (.cells (encB B).toArray 23 (0, 0)) := fun z hz => ((HWF.out.2.trans hz (by simp)).block g14 (lt_of_block HA.out.2.2.2.1) (by simp)).trans HA.out.2.2.2.1
    refine hK.out (fun z => Keeps [] wf z) _ _ (fun _ h => HWF.out.1.trans h (by simp)) (Keeps.refl [] wf) (fun hS => ?_)
    refine seq_take (v := ?_) rfl (by kernel_rfl) (by kernel_rfl) (by kernel_rfl) (Or.inl ⟨by rfl, fun w' hSw => ?_⟩) (by assumption) ?_
    rotate_left
    · go_simp
      with_reducible rfl
    simp only [Act.put, List.setIfInBounds_toArray, List.set_cons_zero, List.set_cons_succ]
    refine seq_take (v := ?_) rfl (by kernel_rfl) (by kernel_rfl) (by kernel_rfl) (Or.inl ⟨by rfl, fun w' hSw => ?_⟩) (by assumption) ?_
    rotate_left
    · go_simp
      with_reducible rfl
    simp only [Act.put, List.setIfInBounds_toArray, List.set_cons_zero, List.set_cons_succ]
    refine seq_take (v := ?_) rfl (by kernel_rfl) (by kernel_rfl) (by kernel_rfl) (Or.inl ⟨by rfl, fun w' hSw => ?_⟩) (by assumption) ?_
    rotate_left
    · go_simp
      with_reducible rfl
    simp only [Act.put, List.setIfInBounds_toArray, List.set_cons_zero, List.set_cons_succ]
    refine seq_take (v := .agg (encB B).toArray) rfl (by kernel_rfl) (by kernel_rfl) (by kernel_rfl) ?_ (by assumption) ?_
    · exact yieldsIf_load_mid (by rfl) 23 (.tmp 12) (by rfl) gx 0 (by rfl) (encB B) _ (fun z hz => rangeAt_row2 (R12 z hz)) Tryd.underlying23 rfl (hsz64 B HB2.out.1)
    simp only [Act.put, List.setIfInBounds_toArray, List.set_cons_zero, List.set_cons_succ]
    refine seq_take (v := .agg (encB B).toArray) rfl (by kernel_rfl) (by kernel_rfl) (by kernel_rfl) ?_ (by assumption) ?_
    · exact yieldsIf_load_mid (by rfl) 23 (.tmp 14) (by rfl) g14 0 (by rfl) (encB B) _ (fun z hz => rangeAt_row2 (R14 z hz)) Tryd.underlying23 rfl (hsz64 B HB2.out.1)
    simp only [Act.put, List.setIfInBounds_toArray, List.set_cons_zero, List.set_cons_succ]
    refine seq_take (v := .bool true) rfl (by kernel_rfl) (by kernel_rfl) (by kernel_rfl) ?_ (by assumption) ?_
    · exact yieldsIf_eqv (by rfl) 23 (.tmp 86) (.tmp 87) (by rfl) (.agg (encB B).toArray) (.agg (encB B).toArray) (.bool true) (by rfl) (by rfl) feB fgB
    simp only [Act.put, List.setIfInBounds_toArray, List.set_cons_zero, List.set_cons_succ]
    refine seq_take (v := ?_) rfl (by kernel_rfl) (by kernel_rfl) (by kernel_rfl) (Or.inl ⟨by rfl, fun w' hSw => ?_⟩) (by assumption) ?_
    rotate_left
    · go_simp
      with_reducible rfl
    simp only [Act.put, List.setIfInBounds_toArray, List.set_cons_zero, List.set_cons_succ]
    refine seq_take (v := ?_) rfl (by kernel_rfl) (by kernel_rfl) (by kernel_rfl) (Or.inl ⟨by rfl, fun w' hSw => ?_⟩) (by assumption) ?_
    rotate_left
    · go_simp
      with_reducible rfl
    simp only [Act.put, List.setIfInBounds_toArray, List.set_cons_zero, List.set_cons_succ]
    refine seq_take (v := ?_) rfl (by kernel_rfl) (by kernel_rfl) (by kernel_rfl) (Or.inl ⟨by rfl, fun w' hSw => ?_⟩) (by assumption) ?_
    rotate_left
    · go_simp
      with_reducible rfl
    simp only [Act.put, List.setIfInBounds_toArray, List.set_cons_zero, List.set_cons_succ]
    iterate 1 (refine seq_later ?_; simp only [List.cons_append, List.nil_append])
    refine seq_take (v := ?_) rfl (by kernel_rfl) (by kernel_rfl) (by kernel_rfl) (Or.inl ⟨by rfl, fun w' hSw => ?_⟩) (by assumption) ?_
    rotate_left
    · go_simp
      with_reducible rfl
    simp only [Act.put, List.setIfInBounds_toArray, List.set_cons_zero, List.set_cons_succ]
    iterate 24 (refine seq_later ?_; simp only [List.cons_append, List.nil_append])
    refine seq_do rfl (by kernel_rfl) (by rfl) (fun K hK => ?_)
    go_simp
    refine (num_any E _ (HH.out.keeps (HA.out.2.1.trans HWF.out.2 (by simp)) (by simp))).mono ?_
    rintro r wg ⟨rfl, hkg⟩
    have HWG := Lib.hid (show Keeps [] wf wg ∧ Keeps [] wa wg from ⟨hkg, HWF.out.2.trans hkg (by simp)⟩)
    clear hkg R12 R14 feB fgB
    have R16 : ∀ z, Keeps [] wg z → z.heap[g16]? = some (.cells (encB PB).toArray 23 (0, 0)) := fun z hz => ((HWG.out.2.trans hz (by simp)).block g16 (lt_of_block HA.out.2.2.2.2.1) (by simp)).trans HA.out.2.2.2.2.1
    have R18 : ∀ z, Keeps [] wg z → z.heap[g18]? = some (.cells (encB PB).toArray 23 (0, 0)) := fun z hz => ((HWG.out.2.trans hz (by simp)).block g18 (lt_of_block H14.out.2) (by simp)).trans H14.out.2
    refine hK.out (fun z => Keeps [] wg z) _ _ (fun _ h => HWG.out.1.trans h (by simp)) (Keeps.refl [] wg) (fun hS => ?_)
    refine seq_take (v := ?_) rfl (by kernel_rfl) (by kernel_rfl) (by kernel_rfl) (Or.inl ⟨by rfl, fun w' hSw => ?_⟩) (by assumption) ?_
    rotate_left
    · go_simp
      with_reducible rfl
    simp only [Act.put, List.setIfInBounds_toArray, List.set_cons_zero, List.set_cons_succ]
    refine seq_take (v := ?_) rfl (by kernel_rfl) (by kernel_rfl) (by kernel_rfl) (Or.inl ⟨by rfl, fun w' hSw => ?_⟩) (by assumption) ?_
    rotate_left
    · go_simp
      with_reducible rfl
    simp only [Act.put, List.setIfInBounds_toArray, List.set_cons_zero, List.set_cons_succ]
    refine seq_take (v := ?_) rfl (by kernel_rfl) (by kernel_rfl) (by kernel_rfl) (Or.inl ⟨by rfl, fun w' hSw => ?_⟩) (by assumption) ?_
    rotate_left
    · go_simp
      with_reducible rfl
    simp only [Act.put, List.setIfInBounds_toArray, List.set_cons_zero, List.set_cons_succ]
    refine seq_take (v := .agg (encB PB).toArray) rfl (by kernel_rfl) (by kernel_rfl) (by kernel_rfl) ?_ (by assumption) ?_
    · exact yieldsIf_load_mid (by rfl) 23 (.tmp 16) (by rfl) g16 0 (by rfl) (encB PB) _ (fun z hz => rangeAt_row2 (R16 z hz)) Tryd.underlying23 rfl (hsz64 PB HPQ.out.2.2)
    simp only [Act.put, List.setIfInBounds_toArray, List.set_cons_zero, List.set_cons_succ]
    refine seq_take (v := .agg (encB PB).toArray) rfl (by kernel_rfl) (by kernel_rfl) (by kernel_rfl) ?_ (by assumption) ?_
    · exact yieldsIf_load_mid (by rfl) 23 (.tmp 18) (by rfl) g18 0 (by rfl) (encB PB) _ (fun z hz => rangeAt_row2 (R18 z hz)) Tryd.underlying23 rfl (hsz64 PB HPQ.out.2.2)
    simp only [Act.put, List.setIfInBounds_toArray, List.set_cons_zero, List.set_cons_succ]
    refine seq_take (v := .bool true) rfl (by kernel_rfl) (by kernel_rfl) (by kernel_rfl) ?_ (by assumption) ?_
    · exact yieldsIf_eqv (by rfl) 23 (.tmp 97) (.tmp 98) (by rfl) (.agg (encB PB).toArray) (.agg (encB PB).toArray) (.bool true) (by rfl) (by rfl) feP fgP
    simp only [Act.put, List.setIfInBounds_toArray, List.set_cons_zero, List.set_cons_succ]
    refine seq_take (v := ?_) rfl (by kernel_rfl) (by kernel_rfl) (by kernel_rfl) (Or.inl ⟨by rfl, fun w' hSw => ?_⟩) (by assumption) ?_
    rotate_left
    · go_simp
      with_reducible rfl
    simp only [Act.put, List.setIfInBounds_toArray, List.set_cons_zero, List.set_cons_succ]
    refine seq_take (v := ?_) rfl (by kernel_rfl) (by kernel_rfl) (by kernel_rfl) (Or.inl ⟨by rfl, fun w' hSw => ?_⟩) (by assumption) ?_
    rotate_left
    · go_simp
      with_reducible rfl
    simp only [Act.put, List.setIfInBounds_toArray, List.set_cons_zero, List.set_cons_succ]
    refine seq_take (v := ?_) rfl (by kernel_rfl) (by kernel_rfl) (by kernel_rfl) (Or.inl ⟨by rfl, fun w' hSw => ?_⟩) (by assumption) ?_
    rotate_left
    · go_simp
      with_reducible rfl
    simp only [Act.put, List.setIfInBounds_toArray, List.set_cons_zero, List.set_cons_succ]
    iterate 1 (refine seq_later ?_; simp only [List.cons_append, List.nil_append])
    refine seq_take (v := ?_) rfl (by kernel_rfl) (by kernel_rfl) (by kernel_rfl) (Or.inl ⟨by rfl, fun w' hSw => ?_⟩) (by assumption) ?_
    rotate_left
    · go_simp
      with_reducible rfl
    simp only [Act.put, List.setIfInBounds_toArray, List.set_cons_zero, List.set_cons_succ]
    iterate 13 (refine seq_later ?_; simp only [List.cons_append, List.nil_append])
    refine seq_do rfl (by kernel_rfl) (by rfl) (fun K hK => ?_)
    go_simp
    refine (num_any PE _ (HH.out.keeps (HA.out.2.1.trans HWG.out.2 (by simp)) (by simp))).mono ?_
    rintro r wh ⟨rfl, hkh⟩
    have HWH := Lib.hid (show Keeps [] wg wh ∧ Keeps [] wa wh from ⟨hkh, HWG.out.2.trans hkh (by simp)⟩)
    clear hkh R16 R18 feP fgP
    have FM := conv_keeps (P := Tryd.prog) (dst := 9) Tryd.underlying25 Tryd.underlying5 Tryd.underlying9 ((HM.out.1.keeps0 HA.out.2.2.2.2.2).keeps0 HWH.out.2).rd cm
    have F0 := conv_keeps (P := Tryd.prog) (dst := 9) Tryd.underlying25 Tryd.underlying5 Tryd.underlying9 (HBB.out.2.2.1.keeps0 (HA.out.2.1.trans HWH.out.2 (by simp))) cb
    refine hK.out (fun z => Keeps [] wh z) _ _ (fun _ h => HWH.out.1.trans h (by simp)) (Keeps.refl [] wh) (fun hS => ?_)
    refine seq_take (v := ?_) rfl (by kernel_rfl) (by kernel_rfl) (by kernel_rfl) (Or.inl ⟨by rfl, fun w' hSw => ?_⟩) (by assumption) ?_
    rotate_left
    · go_simp
      with_reducible rfl
    simp only [Act.put, List.setIfInBounds_toArray, List.set_cons_zero, List.set_cons_succ]
    refine seq_take (v := ?_) rfl (by kernel_rfl) (by kernel_rfl) (by kernel_rfl) (Or.inl ⟨by rfl, fun w' hSw => ?_⟩) (by assumption) ?_
    rotate_left
    · go_simp
      with_reducible rfl
    simp only [Act.put, List.setIfInBounds_toArray, List.set_cons_zero, List.set_cons_succ]
    refine seq_take (v := ?_) rfl (by kernel_rfl) (by kernel_rfl) (by kernel_rfl) (Or.inl ⟨by rfl, fun w' hSw => ?_⟩) (by assumption) ?_
    rotate_left
    · go_simp
      with_reducible rfl
    simp only [Act.put, List.setIfInBounds_toArray, List.set_cons_zero, List.set_cons_succ]
    refine seq_take (v := ?_) rfl (by kernel_rfl) (by kernel_rfl) (by kernel_rfl) (Or.inl ⟨by rfl, fun w' hSw => ?_⟩) (by assumption) ?_
    rotate_left
    · go_simp
      with_reducible rfl
    simp only [Act.put, List.setIfInBounds_toArray, List.set_cons_zero, List.set_cons_succ]
    refine seq_take (v := ?_) rfl (by kernel_rfl) (by kernel_rfl) (by kernel_rfl) (Or.inl ⟨by rfl, fun w' hSw => ?_⟩) (by assumption) ?_
    rotate_left
    · go_simp
      with_reducible rfl
    simp only [Act.put, List.setIfInBounds_toArray, List.set_cons_zero, List.set_cons_succ]
    refine seq_take (v := ?_) rfl (by kernel_rfl) (by kernel_rfl) (by kernel_rfl) (Or.inl ⟨by rfl, fun w' hSw => ?_⟩) (by assumption) ?_
    rotate_left
    · go_simp
      with_reducible rfl
    simp only [Act.put, List.setIfInBounds_toArray, List.set_cons_zero, List.set_cons_succ]
    refine seq_take (v := ?_) rfl (by kernel_rfl) (by kernel_rfl) (by kernel_rfl) (Or.inl ⟨by rfl, fun w' hSw => ?_⟩) (by assumption) ?_
    rotate_left
    · go_simp
      with_reducible rfl
    simp only [Act.put, List.setIfInBounds_toArray, List.set_cons_zero, List.set_cons_succ]
    refine seq_take (v := ?_) rfl (by kernel_rfl) (by kernel_rfl) (by kernel_rfl) (Or.inl ⟨by rfl, fun w' hSw => ?_⟩) (by assumption) ?_
    rotate_left
    · go_simp
      with_reducible rfl
    simp only [Act.put, List.setIfInBounds_toArray, List.set_cons_zero, List.set_cons_succ]
    refine seq_take (v := ?_) rfl (by kernel_rfl) (by kernel_rfl) (by kernel_rfl) (Or.inl ⟨by rfl, fun w' hSw => ?_⟩) (by assumption) ?_
    rotate_left
    · go_simp
      with_reducible rfl
    simp only [Act.put, List.setIfInBounds_toArray, List.set_cons_zero, List.set_cons_succ]
    refine seq_take (v := ?_) rfl (by kernel_rfl) (by kernel_rfl) (by kernel_rfl) (Or.inl ⟨by rfl, fun w' hSw => ?_⟩) (by assumption) ?_
    rotate_left
    · go_simp
      with_reducible rfl
    simp only [Act.put, List.setIfInBounds_toArray, List.set_cons_zero, List.set_cons_succ]
    refine seq_do rfl (by kernel_rfl) (by rfl) (fun K hK => ?_)
    go_simp
    refine (sure10_any _).mono ?_
    rintro r wz ⟨rfl, hkz⟩
    have HZZ := Lib.hid (show Keeps [] wh wz ∧ Keeps [] w wz from ⟨hkz, HA.out.2.1.trans (HWH.out.2.trans hkz (by simp)) (by simp)⟩)
    clear hkz FM F0
    refine hK.out (fun z => Keeps [] wh z) _ _ (fun _ h => h) HZZ.out.1 (fun hS => ?_)
    refine seq_take (v := ?_) rfl (by kernel_rfl) (by kernel_rfl) (by kernel_rfl) (Or.inl ⟨by rfl, fun w' hSw => ?_⟩) (by assumption) ?_
    rotate_left
    · go_simp
      with_reducible rfl
    simp only [Act.put, List.setIfInBounds_toArray, List.set_cons_zero, List.set_cons_succ]
    refine seq_take (v := ?_) rfl (by kernel_rfl) (by kernel_rfl) (by kernel_rfl) (Or.inl ⟨by rfl, fun w' hSw => ?_⟩) (by assumption) ?_
    rotate_left
    · go_simp
      with_reducible rfl
    simp only [Act.put, List.setIfInBounds_toArray, List.set_cons_zero, List.set_cons_succ]
    refine seq_done (by kernel_rfl) ?_
    all_goals skip
    go_wp2_with fail
    go_ret
    exact ⟨rfl, HZZ.out.2⟩
end Go.Proofs.YtljinghhalcnnaaDoor
