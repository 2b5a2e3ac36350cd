/- The law on parts as bytes: called with any parts and bytes it answers true. -/
import Derived.Test.YtljinghhalcnnaaDoorQDeltaReads16
import Derived.Test.YtljinghhalcnnaaDoorQDeltaReads20
import Derived.Test.YtljinghhalcnnaaDoorQDeltaReads21
import Derived.Test.YtljinghhalcnnaaDoorQDeltaReads14
import Derived.Deep.DeepCutAuto
namespace Go.Proofs.YtljinghhalcnnaaDoor
open Go.RowKit

set_option maxRecDepth 100000 in
set_option maxHeartbeats 32000000 in
theorem codes_any (A : Option Addr) (c : Nat) (ts : List Pt) (Ab : Option Addr) (b : List UInt8) (cb : Nat) (w : World) (hr : Rd w A ts.length 4 (encPt ts)) (hf : ∀ t ∈ ts, t.fine w) (htot : ts.length ≤ 200 → (encE10 (ts.map Pt.p)).length + 100 ≤ 140737488355328)
    (hl : b.length ≤ 140737488351232) (hc : b.length ≤ cb) (hrb : RdB w Ab b) (hA : ∀ a, Ab = some a → 0 < b.length → a.block < w.heap.size) (hh : HT w) :
    Calls Tryd.prog 5 #[.slice A ts.length c, .slice Ab b.length cb] w fun r w' => r = .returned (.bool true) ∧ Keeps [] w w' := by
  have HH := Lib.hid hh
  have HB := Lib.hid (show b.length ≤ 140737488351232 ∧ b.length ≤ cb ∧ RdB w Ab b ∧ (∀ a, Ab = some a → 0 < b.length → a.block < w.heap.size) from ⟨hl, hc, hrb, hA⟩)
  obtain ⟨ps, hps⟩ : ∃ ps, ps = ts.map Pt.p := ⟨_, rfl⟩
  obtain ⟨n, hn⟩ : ∃ n, n = ts.length := ⟨_, rfl⟩
  have HN := Lib.hid (show n = ts.length ∧ ps = ts.map Pt.p from ⟨hn, hps⟩)
  have HR := Lib.hid (And.intro hr hf)
  rw [← hps, ← hn] at htot
  rw [← hn]
  clear hr hf hh hps hn hl hc hrb hA
  go_enter Tryd.func5, Tryd.ntmps5
  by_cases hbig : 200 < n
  · have hbigi : (200 : Int) < (n : Int) := by omega
    clear hbig htot
    go_wp2_with fail
    refine (sure10_any _).mono ?_
    rintro r w5 ⟨rfl, hk5⟩
    have H5 := Lib.hid hk5
    clear hk5
    go_wp2_with fail
    go_ret
    exact ⟨rfl, H5.out⟩
  · have hbigi : ¬ (200 : Int) < (n : Int) := by omega
    have hn1000 : n ≤ 1000 := by omega
    have HT := Lib.hid (htot (by omega))
    clear hbig htot
    go_wp2_with fail
    refine (dec10_any Ab b cb w HB.out.1 HB.out.2.1 HB.out.2.2.1 HB.out.2.2.2).mono ?_
    rintro r w3 ⟨hk3, ⟨xs, Ax, cx, hd, hxl, hop, rfl⟩ | ⟨hd, rfl⟩⟩
    · obtain ⟨m, hm⟩ : ∃ m, m = xs.length := ⟨_, rfl⟩
      obtain ⟨qs, hqs⟩ : ∃ qs, qs = xs.map Pt.p := ⟨_, rfl⟩
      have HX := Lib.hid (show OpI w w3 Ax cx xs ∧ xs.map Pt.p = qs ∧ xs.length ≤ 64 ∧ m = xs.length ∧ encE10 qs = b from ⟨hop, hqs.symm, hxl, hm, enc_dec10 (by rw [hqs]; exact hd)⟩)
      have HK3 := Lib.hid hk3
      have HD := Lib.hid hd
      rw [← hm]
      clear hk3 hd hxl hop hm hqs
      go_wp2_with fail
      refine (rdec10_any Ab b cb w3 HB.out.1 HB.out.2.1 (HB.out.2.2.1.keeps0 HK3.out) (fun a ha hp => Nat.lt_of_lt_of_le (HB.out.2.2.2 a ha hp) HK3.out.size)).mono ?_
      rintro r w4 ⟨hk4, ⟨ys, Ay, cy, _, _, _, rfl⟩ | ⟨hd2, rfl⟩⟩
      rotate_left
      · exfalso
        rw [HD.out] at hd2
        cases hd2
      have H4 := Lib.hid (show Keeps [] w w4 ∧ Keeps [] w3 w4 from ⟨HK3.out.trans hk4 (by simp), hk4⟩)
      clear hk4
      go_upto_region 5 with fail
      refine seq_start (by kernel_rfl) (fun z => Keeps [] w4 z) 30 [0, 1, 2, 3, 4, 5, 6, 7, 8, 9, 10, 11, 12, 13, 14, 15, 16, 17, 18, 19, 20, 21, 22, 23, 24, 25, 26, 27, 28, 29] rfl ((Keeps.refl [] w4).drew) (fun hS => ?_)
      refine seq_take (v := ?_) rfl (by kernel_rfl) (by kernel_rfl) (by kernel_rfl) (Or.inl ⟨by rfl, fun w' hSw => ?_⟩) (by assumption) ?_
      rotate_left
      · go_simp
        with_reducible rfl
      simp only [Act.put, List.setIfInBounds_toArray, List.set_cons_zero, List.set_cons_succ]
      iterate 3 (refine seq_later ?_; simp only [List.cons_append, List.nil_append])
      refine seq_take (v := ?_) rfl (by kernel_rfl) (by kernel_rfl) (by kernel_rfl) (Or.inl ⟨by rfl, fun w' hSw => ?_⟩) (by assumption) ?_
      rotate_left
      · go_simp
        with_reducible rfl
      simp only [Act.put, List.setIfInBounds_toArray, List.set_cons_zero, List.set_cons_succ]
      iterate 25 (refine seq_later ?_; simp only [List.cons_append, List.nil_append])
      refine seq_do rfl (by kernel_rfl) (by rfl) (fun K hK => ?_)
      go_simp
      refine (give_is A c n ts ps w4.drew HN.out.1.symm HN.out.2.symm (HR.out.1.keeps0 H4.out.1.drew) (fun t ht => (HR.out.2 t ht).keeps0 H4.out.1.drew) (by omega)).mono ?_
      rintro r w5 ⟨A5, c5, us, rfl, hop, hul, hus⟩
      have H5 := Lib.hid (show OpI w4.drew w5 A5 c5 us ∧ us.map Pt.p = ps ∧ us.length = n ∧ Keeps [] w4 w5 from ⟨hop, hus, hul, (Keeps.refl [] w4).drew.trans hop.kp (by simp)⟩)
      clear hop hul hus
      refine hK.out (fun z => Keeps [] w4 z) _ _ (fun _ h => h) H5.out.2.2.2 (fun hS => ?_)
      refine seq_do rfl (by kernel_rfl) (by rfl) (fun K hK => ?_)
      go_simp
      have HC := enc_any A5 c5 us w5 (Rd.of_own H5.out.1.own) (fun t ht => (H5.out.1.rd t ht).1.rd) (by have := H5.out.2.2.1; omega) (by rw [H5.out.2.1]; exact HT.out)
      rw [H5.out.2.1, H5.out.2.2.1] at HC
      refine HC.mono ?_
      clear HC
      rintro r w6 ⟨A6, c6, l6, hl6, rfl, ho6, hn6, hk6⟩
      have H6 := Lib.hid (show l6 = encE10 ps ∧ Keeps [] w4 w6 from ⟨hl6.out, H5.out.2.2.2.trans hk6 (by simp)⟩)
      have F6 := conv_keeps (P := Tryd.prog) (dst := 9) Tryd.underlying25 Tryd.underlying5 Tryd.underlying9 ho6.rd c6
      clear hl6 ho6 hn6 hk6
      refine hK.out (fun z => Keeps [] w6 z) _ _ (fun _ h => H6.out.2.trans h (by simp)) (Keeps.refl [] w6) (fun hS => ?_)
      refine seq_take (v := ?_) rfl (by kernel_rfl) (by kernel_rfl) (by kernel_rfl) (Or.inl ⟨by rfl, fun w' hSw => ?_⟩) (by assumption) ?_
      rotate_left
      · go_simp
        with_reducible rfl
      simp only [Act.put, List.setIfInBounds_toArray, List.set_cons_zero, List.set_cons_succ]
      refine seq_do rfl (by kernel_rfl) (by rfl) (fun K hK => ?_)
      go_simp
      have HC := renc_any A c ts w6 (HR.out.1.keeps0 (H4.out.1.trans H6.out.2 (by simp))) (fun t ht => ((HR.out.2 t ht).keeps0 (H4.out.1.trans H6.out.2 (by simp))).rd) (by have := HN.out.1; omega) (by rw [← HN.out.2]; exact HT.out)
      rw [← HN.out.1, ← HN.out.2, ← H6.out.1] at HC
      refine HC.mono ?_
      clear HC
      rintro r w7 ⟨A7, c7, l7, hl7, rfl, ho7, hn7, hk7⟩
      obtain rfl : l7 = l6 := hl7.out
      have H7 := Lib.hid (show Keeps [] w6 w7 ∧ Keeps [] w w7 from ⟨hk7, H4.out.1.trans (H6.out.2.trans hk7 (by simp)) (by simp)⟩)
      have F7 := conv_keeps (P := Tryd.prog) (dst := 9) Tryd.underlying25 Tryd.underlying5 Tryd.underlying9 ho7.rd c7
      clear hl7 ho7 hn7 hk7 F6
      refine hK.out (fun z => Keeps [] w7 z) _ _ (fun _ h => H7.out.1.trans h (by simp)) (Keeps.refl [] w7) (fun hS => ?_)
      refine seq_take (v := ?_) rfl (by kernel_rfl) (by kernel_rfl) (by kernel_rfl) (Or.inl ⟨by rfl, fun w' hSw => ?_⟩) (by assumption) ?_
      rotate_left
      · go_simp
        with_reducible rfl
      simp only [Act.put, List.setIfInBounds_toArray, List.set_cons_zero, List.set_cons_succ]
      refine seq_take (v := ?_) rfl (by kernel_rfl) (by kernel_rfl) (by kernel_rfl) (Or.inl ⟨by rfl, fun w' hSw => ?_⟩) (by assumption) ?_
      rotate_left
      · go_simp
        with_reducible rfl
      simp only [Act.put, List.setIfInBounds_toArray, List.set_cons_zero, List.set_cons_succ]
      refine seq_take (v := ?_) rfl (by kernel_rfl) (by kernel_rfl) (by kernel_rfl) (Or.inl ⟨by rfl, fun w' hSw => ?_⟩) (by assumption) ?_
      rotate_left
      · go_simp
        with_reducible rfl
      simp only [Act.put, List.setIfInBounds_toArray, List.set_cons_zero, List.set_cons_succ]
      refine seq_take (v := ?_) rfl (by kernel_rfl) (by kernel_rfl) (by kernel_rfl) (Or.inl ⟨by rfl, fun w' hSw => ?_⟩) (by assumption) ?_
      rotate_left
      · go_simp
        with_reducible rfl
      simp only [Act.put, List.setIfInBounds_toArray, List.set_cons_zero, List.set_cons_succ]
      iterate 1 (refine seq_later ?_; simp only [List.cons_append, List.nil_append])
      refine seq_take (v := ?_) rfl (by kernel_rfl) (by kernel_rfl) (by kernel_rfl) (Or.inl ⟨by rfl, fun w' hSw => ?_⟩) (by assumption) ?_
      rotate_left
      · go_simp
        with_reducible rfl
      simp only [Act.put, List.setIfInBounds_toArray, List.set_cons_zero, List.set_cons_succ]
      iterate 18 (refine seq_later ?_; simp only [List.cons_append, List.nil_append])
      refine seq_do rfl (by kernel_rfl) (by rfl) (fun K hK => ?_)
      go_simp
      refine (num_nil _).mono ?_
      rintro r w8 ⟨rfl, hk8⟩
      have H8 := Lib.hid (show Keeps [] w7 w8 ∧ Keeps [] w w8 from ⟨hk8, H7.out.2.trans hk8 (by simp)⟩)
      clear hk8 F7
      have F0 := conv_keeps (P := Tryd.prog) (dst := 9) Tryd.underlying25 Tryd.underlying5 Tryd.underlying9 (HB.out.2.2.1.keeps0 H8.out.2) cb
      refine hK.out (fun z => Keeps [] w8 z) _ _ (fun _ h => H8.out.1.trans h (by simp)) (Keeps.refl [] w8) (fun hS => ?_)
      refine seq_take (v := ?_) rfl (by kernel_rfl) (by kernel_rfl) (by kernel_rfl) (Or.inl ⟨by rfl, fun w' hSw => ?_⟩) (by assumption) ?_
      rotate_left
      · go_simp
        with_reducible rfl
      simp only [Act.put, List.setIfInBounds_toArray, List.set_cons_zero, List.set_cons_succ]
      refine seq_take (v := ?_) rfl (by kernel_rfl) (by kernel_rfl) (by kernel_rfl) (Or.inl ⟨by rfl, fun w' hSw => ?_⟩) (by assumption) ?_
      rotate_left
      · go_simp
        with_reducible rfl
      simp only [Act.put, List.setIfInBounds_toArray, List.set_cons_zero, List.set_cons_succ]
      refine seq_take (v := ?_) rfl (by kernel_rfl) (by kernel_rfl) (by kernel_rfl) (Or.inl ⟨by rfl, fun w' hSw => ?_⟩) (by assumption) ?_
      rotate_left
      · go_simp
        with_reducible rfl
      simp only [Act.put, List.setIfInBounds_toArray, List.set_cons_zero, List.set_cons_succ]
      refine seq_take (v := ?_) rfl (by kernel_rfl) (by kernel_rfl) (by kernel_rfl) (Or.inl ⟨by rfl, fun w' hSw => ?_⟩) (by assumption) ?_
      rotate_left
      · go_simp
        with_reducible rfl
      simp only [Act.put, List.setIfInBounds_toArray, List.set_cons_zero, List.set_cons_succ]
      refine seq_take (v := ?_) rfl (by kernel_rfl) (by kernel_rfl) (by kernel_rfl) (Or.inl ⟨by rfl, fun w' hSw => ?_⟩) (by assumption) ?_
      rotate_left
      · go_simp
        with_reducible rfl
      simp only [Act.put, List.setIfInBounds_toArray, List.set_cons_zero, List.set_cons_succ]
      refine seq_take (v := ?_) rfl (by kernel_rfl) (by kernel_rfl) (by kernel_rfl) (Or.inl ⟨by rfl, fun w' hSw => ?_⟩) (by assumption) ?_
      rotate_left
      · go_simp
        with_reducible rfl
      simp only [Act.put, List.setIfInBounds_toArray, List.set_cons_zero, List.set_cons_succ]
      refine seq_take (v := ?_) rfl (by kernel_rfl) (by kernel_rfl) (by kernel_rfl) (Or.inl ⟨by rfl, fun w' hSw => ?_⟩) (by assumption) ?_
      rotate_left
      · go_simp
        with_reducible rfl
      simp only [Act.put, List.setIfInBounds_toArray, List.set_cons_zero, List.set_cons_succ]
      iterate 2 (refine seq_later ?_; simp only [List.cons_append, List.nil_append])
      refine seq_take (v := ?_) rfl (by kernel_rfl) (by kernel_rfl) (by kernel_rfl) (Or.inl ⟨by rfl, fun w' hSw => ?_⟩) (by assumption) ?_
      rotate_left
      · go_simp
        with_reducible rfl
      simp only [Act.put, List.setIfInBounds_toArray, List.set_cons_zero, List.set_cons_succ]
      refine seq_take (v := ?_) rfl (by kernel_rfl) (by kernel_rfl) (by kernel_rfl) (Or.inl ⟨by rfl, fun w' hSw => ?_⟩) (by assumption) ?_
      rotate_left
      · go_simp
        with_reducible rfl
      simp only [Act.put, List.setIfInBounds_toArray, List.set_cons_zero, List.set_cons_succ]
      iterate 7 (refine seq_later ?_; simp only [List.cons_append, List.nil_append])
      refine seq_do rfl (by kernel_rfl) (by rfl) (fun K hK => ?_)
      go_simp
      have HX8 := HX.out.1.keeps0 (H4.out.2.trans (H6.out.2.trans (H7.out.1.trans H8.out.1 (by simp)) (by simp)) (by simp))
      have HC := enc_any Ax cx xs w8 (Rd.of_own HX8.own) (fun t ht => (HX8.rd t ht).1.rd) (by have := HX.out.2.2.1; omega) (by rw [HX.out.2.1, HX.out.2.2.2.2]; have := HB.out.1; omega)
      rw [HX.out.2.1, HX.out.2.2.2.2, ← HX.out.2.2.2.1] at HC
      refine HC.mono ?_
      clear HC HX8
      rintro r w9 ⟨A9, c9, l9, hl9, rfl, ho9, hn9, hk9⟩
      have H9 := Lib.hid (show Keeps [] w8 w9 ∧ Keeps [] w w9 from ⟨hk9, H8.out.2.trans hk9 (by simp)⟩)
      obtain rfl : l9 = b := hl9.out
      have F9 := conv_keeps (P := Tryd.prog) (dst := 9) Tryd.underlying25 Tryd.underlying5 Tryd.underlying9 ho9.rd c9
      clear hl9 ho9 hn9 hk9 F0
      refine hK.out (fun z => Keeps [] w9 z) _ _ (fun _ h => H9.out.1.trans h (by simp)) (Keeps.refl [] w9) (fun hS => ?_)
      refine seq_take (v := ?_) rfl (by kernel_rfl) (by kernel_rfl) (by kernel_rfl) (Or.inl ⟨by rfl, fun w' hSw => ?_⟩) (by assumption) ?_
      rotate_left
      · go_simp
        with_reducible rfl
      simp only [Act.put, List.setIfInBounds_toArray, List.set_cons_zero, List.set_cons_succ]
      refine seq_take (v := ?_) rfl (by kernel_rfl) (by kernel_rfl) (by kernel_rfl) (Or.inl ⟨by rfl, fun w' hSw => ?_⟩) (by assumption) ?_
      rotate_left
      · go_simp
        with_reducible rfl
      simp only [Act.put, List.setIfInBounds_toArray, List.set_cons_zero, List.set_cons_succ]
      refine seq_take (v := ?_) rfl (by kernel_rfl) (by kernel_rfl) (by kernel_rfl) (Or.inl ⟨by rfl, fun w' hSw => ?_⟩) (by assumption) ?_
      rotate_left
      · go_simp
        with_reducible rfl
      simp only [Act.put, List.setIfInBounds_toArray, List.set_cons_zero, List.set_cons_succ]
      refine seq_take (v := ?_) rfl (by kernel_rfl) (by kernel_rfl) (by kernel_rfl) (Or.inl ⟨by rfl, fun w' hSw => ?_⟩) (by assumption) ?_
      rotate_left
      · go_simp
        with_reducible rfl
      simp only [Act.put, List.setIfInBounds_toArray, List.set_cons_zero, List.set_cons_succ]
      refine seq_take (v := ?_) rfl (by kernel_rfl) (by kernel_rfl) (by kernel_rfl) (Or.inl ⟨by rfl, fun w' hSw => ?_⟩) (by assumption) ?_
      rotate_left
      · go_simp
        with_reducible rfl
      simp only [Act.put, List.setIfInBounds_toArray, List.set_cons_zero, List.set_cons_succ]
      refine seq_do rfl (by kernel_rfl) (by rfl) (fun K hK => ?_)
      go_simp
      refine (sure10_any _).mono ?_
      rintro r wz ⟨rfl, hkz⟩
      have HZZ := Lib.hid (show Keeps [] w9 wz ∧ Keeps [] w wz from ⟨hkz, H9.out.2.trans hkz (by simp)⟩)
      clear hkz F9
      refine hK.out (fun z => Keeps [] w9 z) _ _ (fun _ h => h) HZZ.out.1 (fun hS => ?_)
      refine seq_take (v := ?_) rfl (by kernel_rfl) (by kernel_rfl) (by kernel_rfl) (Or.inl ⟨by rfl, fun w' hSw => ?_⟩) (by assumption) ?_
      rotate_left
      · go_simp
        with_reducible rfl
      simp only [Act.put, List.setIfInBounds_toArray, List.set_cons_zero, List.set_cons_succ]
      refine seq_take (v := ?_) rfl (by kernel_rfl) (by kernel_rfl) (by kernel_rfl) (Or.inl ⟨by rfl, fun w' hSw => ?_⟩) (by assumption) ?_
      rotate_left
      · go_simp
        with_reducible rfl
      simp only [Act.put, List.setIfInBounds_toArray, List.set_cons_zero, List.set_cons_succ]
      refine seq_done (by kernel_rfl) ?_
      all_goals skip
      go_wp2_with fail
      go_ret
      exact ⟨rfl, HZZ.out.2⟩
    · have HK3 := Lib.hid hk3
      have HD := Lib.hid hd
      rw [errV_other (by decide)]
      clear hk3 hd
      go_wp2_with fail
      refine (rdec10_any Ab b cb w3 HB.out.1 HB.out.2.1 (HB.out.2.2.1.keeps0 HK3.out) (fun a ha hp => Nat.lt_of_lt_of_le (HB.out.2.2.2 a ha hp) HK3.out.size)).mono ?_
      rintro r w4 ⟨hk4, ⟨ys, Ay, cy, hd2, _, _, rfl⟩ | ⟨hd2, rfl⟩⟩
      · exfalso
        rw [HD.out] at hd2
        cases hd2
      have H4 := Lib.hid (show Keeps [] w w4 ∧ Keeps [] w3 w4 from ⟨HK3.out.trans hk4 (by simp), hk4⟩)
      clear hk4 hd2
      go_upto_region 5 with fail
      refine seq_start (by kernel_rfl) (fun z => Keeps [] w4 z) 30 [0, 1, 2, 3, 4, 5, 6, 7, 8, 9, 10, 11, 12, 13, 14, 15, 16, 17, 18, 19, 20, 21, 22, 23, 24, 25, 26, 27, 28, 29] rfl ((Keeps.refl [] w4).drew) (fun hS => ?_)
      refine seq_take (v := ?_) rfl (by kernel_rfl) (by kernel_rfl) (by kernel_rfl) (Or.inl ⟨by rfl, fun w' hSw => ?_⟩) (by assumption) ?_
      rotate_left
      · go_simp
        with_reducible rfl
      simp only [Act.put, List.setIfInBounds_toArray, List.set_cons_zero, List.set_cons_succ]
      iterate 3 (refine seq_later ?_; simp only [List.cons_append, List.nil_append])
      refine seq_take (v := ?_) rfl (by kernel_rfl) (by kernel_rfl) (by kernel_rfl) (Or.inl ⟨by rfl, fun w' hSw => ?_⟩) (by assumption) ?_
      rotate_left
      · go_simp
        with_reducible rfl
      simp only [Act.put, List.setIfInBounds_toArray, List.set_cons_zero, List.set_cons_succ]
      iterate 25 (refine seq_later ?_; simp only [List.cons_append, List.nil_append])
      refine seq_do rfl (by kernel_rfl) (by rfl) (fun K hK => ?_)
      go_simp
      refine (give_is A c n ts ps w4.drew HN.out.1.symm HN.out.2.symm (HR.out.1.keeps0 H4.out.1.drew) (fun t ht => (HR.out.2 t ht).keeps0 H4.out.1.drew) (by omega)).mono ?_
      rintro r w5 ⟨A5, c5, us, rfl, hop, hul, hus⟩
      have H5 := Lib.hid (show OpI w4.drew w5 A5 c5 us ∧ us.map Pt.p = ps ∧ us.length = n ∧ Keeps [] w4 w5 from ⟨hop, hus, hul, (Keeps.refl [] w4).drew.trans hop.kp (by simp)⟩)
      clear hop hul hus
      refine hK.out (fun z => Keeps [] w4 z) _ _ (fun _ h => h) H5.out.2.2.2 (fun hS => ?_)
      refine seq_do rfl (by kernel_rfl) (by rfl) (fun K hK => ?_)
      go_simp
      have HC := enc_any A5 c5 us w5 (Rd.of_own H5.out.1.own) (fun t ht => (H5.out.1.rd t ht).1.rd) (by have := H5.out.2.2.1; omega) (by rw [H5.out.2.1]; exact HT.out)
      rw [H5.out.2.1, H5.out.2.2.1] at HC
      refine HC.mono ?_
      clear HC
      rintro r w6 ⟨A6, c6, l6, hl6, rfl, ho6, hn6, hk6⟩
      have H6 := Lib.hid (show l6 = encE10 ps ∧ Keeps [] w4 w6 from ⟨hl6.out, H5.out.2.2.2.trans hk6 (by simp)⟩)
      have F6 := conv_keeps (P := Tryd.prog) (dst := 9) Tryd.underlying25 Tryd.underlying5 Tryd.underlying9 ho6.rd c6
      clear hl6 ho6 hn6 hk6
      refine hK.out (fun z => Keeps [] w6 z) _ _ (fun _ h => H6.out.2.trans h (by simp)) (Keeps.refl [] w6) (fun hS => ?_)
      refine seq_take (v := ?_) rfl (by kernel_rfl) (by kernel_rfl) (by kernel_rfl) (Or.inl ⟨by rfl, fun w' hSw => ?_⟩) (by assumption) ?_
      rotate_left
      · go_simp
        with_reducible rfl
      simp only [Act.put, List.setIfInBounds_toArray, List.set_cons_zero, List.set_cons_succ]
      refine seq_do rfl (by kernel_rfl) (by rfl) (fun K hK => ?_)
      go_simp
      have HC := renc_any A c ts w6 (HR.out.1.keeps0 (H4.out.1.trans H6.out.2 (by simp))) (fun t ht => ((HR.out.2 t ht).keeps0 (H4.out.1.trans H6.out.2 (by simp))).rd) (by have := HN.out.1; omega) (by rw [← HN.out.2]; exact HT.out)
      rw [← HN.out.1, ← HN.out.2, ← H6.out.1] at HC
      refine HC.mono ?_
      clear HC
      rintro r w7 ⟨A7, c7, l7, hl7, rfl, ho7, hn7, hk7⟩
      obtain rfl : l7 = l6 := hl7.out
      have H7 := Lib.hid (show Keeps [] w6 w7 ∧ Keeps [] w w7 from ⟨hk7, H4.out.1.trans (H6.out.2.trans hk7 (by simp)) (by simp)⟩)
      have F7 := conv_keeps (P := Tryd.prog) (dst := 9) Tryd.underlying25 Tryd.underlying5 Tryd.underlying9 ho7.rd c7
      clear hl7 ho7 hn7 hk7 F6
      refine hK.out (fun z => Keeps [] w7 z) _ _ (fun _ h => H7.out.1.trans h (by simp)) (Keeps.refl [] w7) (fun hS => ?_)
      refine seq_take (v := ?_) rfl (by kernel_rfl) (by kernel_rfl) (by kernel_rfl) (Or.inl ⟨by rfl, fun w' hSw => ?_⟩) (by assumption) ?_
      rotate_left
      · go_simp
        with_reducible rfl
      simp only [Act.put, List.setIfInBounds_toArray, List.set_cons_zero, List.set_cons_succ]
      refine seq_take (v := ?_) rfl (by kernel_rfl) (by kernel_rfl) (by kernel_rfl) (Or.inl ⟨by rfl, fun w' hSw => ?_⟩) (by assumption) ?_
      rotate_left
      · go_simp
        with_reducible rfl
      simp only [Act.put, List.setIfInBounds_toArray, List.set_cons_zero, List.set_cons_succ]
      refine seq_take (v := ?_) rfl (by kernel_rfl) (by kernel_rfl) (by kernel_rfl) (Or.inl ⟨by rfl, fun w' hSw => ?_⟩) (by assumption) ?_
      rotate_left
      · go_simp
        with_reducible rfl
      simp only [Act.put, List.setIfInBounds_toArray, List.set_cons_zero, List.set_cons_succ]
      refine seq_take (v := ?_) rfl (by kernel_rfl) (by kernel_rfl) (by kernel_rfl) (Or.inl ⟨by rfl, fun w' hSw => ?_⟩) (by assumption) ?_
      rotate_left
      · go_simp
        with_reducible rfl
      simp only [Act.put, List.setIfInBounds_toArray, List.set_cons_zero, List.set_cons_succ]
      iterate 1 (refine seq_later ?_; simp only [List.cons_append, List.nil_append])
      refine seq_take (v := ?_) rfl (by kernel_rfl) (by kernel_rfl) (by kernel_rfl) (Or.inl ⟨by rfl, fun w' hSw => ?_⟩) (by assumption) ?_
      rotate_left
      · go_simp
        with_reducible rfl
      simp only [Act.put, List.setIfInBounds_toArray, List.set_cons_zero, List.set_cons_succ]
      iterate 18 (refine seq_later ?_; simp only [List.cons_append, List.nil_append])
      refine seq_do rfl (by kernel_rfl) (by rfl) (fun K hK => ?_)
      go_simp
      refine (num_err 3 _ (HH.out.keeps H7.out.2 (by simp))).mono ?_
      rintro r w8 ⟨rfl, hk8⟩
      have H8 := Lib.hid (show Keeps [] w7 w8 ∧ Keeps [] w w8 from ⟨hk8, H7.out.2.trans hk8 (by simp)⟩)
      clear hk8 F7
      refine hK.out (fun z => Keeps [] w8 z) _ _ (fun _ h => H8.out.1.trans h (by simp)) (Keeps.refl [] w8) (fun hS => ?_)
      refine seq_take (v := ?_) rfl (by kernel_rfl) (by kernel_rfl) (by kernel_rfl) (Or.inl ⟨by rfl, fun w' hSw => ?_⟩) (by assumption) ?_
      rotate_left
      · go_simp
        with_reducible rfl
      simp only [Act.put, List.setIfInBounds_toArray, List.set_cons_zero, List.set_cons_succ]
      refine seq_take (v := ?_) rfl (by kernel_rfl) (by kernel_rfl) (by kernel_rfl) (Or.inl ⟨by rfl, fun w' hSw => ?_⟩) (by assumption) ?_
      rotate_left
      · go_simp
        with_reducible rfl
      simp only [Act.put, List.setIfInBounds_toArray, List.set_cons_zero, List.set_cons_succ]
      refine seq_take (v := ?_) rfl (by kernel_rfl) (by kernel_rfl) (by kernel_rfl) (Or.inl ⟨by rfl, fun w' hSw => ?_⟩) (by assumption) ?_
      rotate_left
      · go_simp
        with_reducible rfl
      simp only [Act.put, List.setIfInBounds_toArray, List.set_cons_zero, List.set_cons_succ]
      refine seq_take (v := ?_) rfl (by kernel_rfl) (by kernel_rfl) (by kernel_rfl) (Or.inl ⟨by rfl, fun w' hSw => ?_⟩) (by assumption) ?_
      rotate_left
      · go_simp
        with_reducible rfl
      simp only [Act.put, List.setIfInBounds_toArray, List.set_cons_zero, List.set_cons_succ]
      refine seq_take (v := ?_) rfl (by kernel_rfl) (by kernel_rfl) (by kernel_rfl) (Or.inl ⟨by rfl, fun w' hSw => ?_⟩) (by assumption) ?_
      rotate_left
      · go_simp
        with_reducible rfl
      simp only [Act.put, List.setIfInBounds_toArray, List.set_cons_zero, List.set_cons_succ]
      refine seq_take (v := ?_) rfl (by kernel_rfl) (by kernel_rfl) (by kernel_rfl) (Or.inl ⟨by rfl, fun w' hSw => ?_⟩) (by assumption) ?_
      rotate_left
      · go_simp
        with_reducible rfl
      simp only [Act.put, List.setIfInBounds_toArray, List.set_cons_zero, List.set_cons_succ]
      refine seq_take (v := undef) rfl (by kernel_rfl) (by kernel_rfl) (by kernel_rfl) (Or.inr ⟨by rfl, rfl⟩) (by assumption) ?_
      simp only [Act.put, List.setIfInBounds_toArray, List.set_cons_zero, List.set_cons_succ]
      refine seq_take (v := undef) rfl (by kernel_rfl) (by kernel_rfl) (by kernel_rfl) (Or.inr ⟨by rfl, rfl⟩) (by assumption) ?_
      simp only [Act.put, List.setIfInBounds_toArray, List.set_cons_zero, List.set_cons_succ]
      refine seq_take (v := undef) rfl (by kernel_rfl) (by kernel_rfl) (by kernel_rfl) (Or.inr ⟨by rfl, rfl⟩) (by assumption) ?_
      simp only [Act.put, List.setIfInBounds_toArray, List.set_cons_zero, List.set_cons_succ]
      refine seq_take (v := undef) rfl (by kernel_rfl) (by kernel_rfl) (by kernel_rfl) (Or.inr ⟨by rfl, rfl⟩) (by assumption) ?_
      simp only [Act.put, List.setIfInBounds_toArray, List.set_cons_zero, List.set_cons_succ]
      refine seq_take (v := undef) rfl (by kernel_rfl) (by kernel_rfl) (by kernel_rfl) (Or.inr ⟨by rfl, rfl⟩) (by assumption) ?_
      simp only [Act.put, List.setIfInBounds_toArray, List.set_cons_zero, List.set_cons_succ]
      refine seq_take (v := undef) rfl (by kernel_rfl) (by kernel_rfl) (by kernel_rfl) (Or.inr ⟨by rfl, rfl⟩) (by assumption) ?_
      simp only [Act.put, List.setIfInBounds_toArray, List.set_cons_zero, List.set_cons_succ]
      refine seq_take (v := ?_) rfl (by kernel_rfl) (by kernel_rfl) (by kernel_rfl) (Or.inl ⟨by rfl, fun w' hSw => ?_⟩) (by assumption) ?_
      rotate_left
      · go_simp
        with_reducible rfl
      simp only [Act.put, List.setIfInBounds_toArray, List.set_cons_zero, List.set_cons_succ]
      refine seq_take (v := ?_) rfl (by kernel_rfl) (by kernel_rfl) (by kernel_rfl) (Or.inl ⟨by rfl, fun w' hSw => ?_⟩) (by assumption) ?_
      rotate_left
      · go_simp
        with_reducible rfl
      simp only [Act.put, List.setIfInBounds_toArray, List.set_cons_zero, List.set_cons_succ]
      refine seq_take (v := ?_) rfl (by kernel_rfl) (by kernel_rfl) (by kernel_rfl) (Or.inl ⟨by rfl, fun w' hSw => ?_⟩) (by assumption) ?_
      rotate_left
      · go_simp
        with_reducible rfl
      simp only [Act.put, List.setIfInBounds_toArray, List.set_cons_zero, List.set_cons_succ]
      refine seq_do rfl (by kernel_rfl) (by rfl) (fun K hK => ?_)
      go_simp
      refine (sure10_any _).mono ?_
      rintro r wz ⟨rfl, hkz⟩
      have HZZ := Lib.hid (show Keeps [] w8 wz ∧ Keeps [] w wz from ⟨hkz, H8.out.2.trans hkz (by simp)⟩)
      clear hkz
      refine hK.out (fun z => Keeps [] w8 z) _ _ (fun _ h => h) HZZ.out.1 (fun hS => ?_)
      refine seq_take (v := ?_) rfl (by kernel_rfl) (by kernel_rfl) (by kernel_rfl) (Or.inl ⟨by rfl, fun w' hSw => ?_⟩) (by assumption) ?_
      rotate_left
      · go_simp
        with_reducible rfl
      simp only [Act.put, List.setIfInBounds_toArray, List.set_cons_zero, List.set_cons_succ]
      refine seq_take (v := ?_) rfl (by kernel_rfl) (by kernel_rfl) (by kernel_rfl) (Or.inl ⟨by rfl, fun w' hSw => ?_⟩) (by assumption) ?_
      rotate_left
      · go_simp
        with_reducible rfl
      simp only [Act.put, List.setIfInBounds_toArray, List.set_cons_zero, List.set_cons_succ]
      refine seq_done (by kernel_rfl) ?_
      all_goals skip
      go_wp2_with fail
      go_ret
      exact ⟨rfl, HZZ.out.2⟩
theorem uintB_le9 (n : Nat) : (uintB n).length ≤ 9 := length_uintB_le n
theorem encP_le (p : Pa) : (encP p).length ≤ 20 + p.b.length := by
  unfold encP
  have h1 := uintB_le9 (uN p.fr)
  have h2 := uintB_le9 (uN p.ln)
  have h3 := uintB_le9 p.b.length
  cases p.cp with
  | true =>
    rw [if_pos rfl, if_pos rfl]
    simp only [List.length_append, List.length_singleton]
    omega
  | false =>
    rw [if_neg (by simp), if_neg (by simp)]
    unfold lenB
    simp only [List.length_append, List.length_singleton]
    omega
theorem encPs_le : ∀ ps : List Pa, (ps.flatMap encP).length ≤ 20 * ps.length + (ps.map fun p => p.b.length).sum
  | [] => by simp
  | p :: ps => by
    have h1 := encP_le p
    have h2 := encPs_le ps
    rw [List.flatMap_cons, List.length_append, List.length_cons, List.map_cons, List.sum_cons]
    omega
theorem bulk_op (x : OpV) : (toB x.2.2.2.1.2).length ≤ (K.st KOp).bulk x := by
  have h1 : (K.slice 1 (K.int .u8)).bulk x.2.2.2.1 = (toB x.2.2.2.1.2).length := by rw [length_toB]; exact bulk_ints _
  have h2 : (K.slice 1 (K.int .u8)).bulk x.2.2.2.1 ≤ (K.st KOp).bulk x := by
    show _ ≤ 1 + (1 + (1 + ((K.slice 1 (K.int .u8)).bulk x.2.2.2.1 + _)))
    omega
  omega
theorem bulk_ops {A : Option Addr} {c : Nat} : ∀ xs : List OpV, ((xs.map OpV.pt).map fun t => t.p.b.length).sum ≤ (K.slice 48 (K.st KOp)).bulk ((A, c), xs)
  | [] => Nat.zero_le _
  | x :: xs => by
    have h1 := bulk_op x
    have h2 := bulk_ops (A := A) (c := c) xs
    show (toB x.2.2.2.1.2).length + ((xs.map OpV.pt).map fun t => t.p.b.length).sum ≤ (K.st KOp).bulk x + (xs.map (K.st KOp).bulk).sum
    have h3 : (K.slice 48 (K.st KOp)).bulk ((A, c), xs) = (xs.map (K.st KOp).bulk).sum := rfl
    omega
/-- Parts of a bulk that is bounded make few bytes. -/
theorem encE_bulk {A : Option Addr} {c : Nat} {xs : List OpV} (h : (K.slice 48 (K.st KOp)).bulk ((A, c), xs) ≤ 1048576) (hl : (xs.map OpV.pt).length ≤ 200) : (encE10 ((xs.map OpV.pt).map Pt.p)).length + 100 ≤ 140737488355328 := by
  have h1 := encPs_le ((xs.map OpV.pt).map Pt.p)
  have h2 := bulk_ops (A := A) (c := c) xs
  have h3 := uintB_le9 ((xs.map OpV.pt).map Pt.p).length
  have h4 : (((xs.map OpV.pt).map Pt.p).map fun p => p.b.length).sum = ((xs.map OpV.pt).map fun t => t.p.b.length).sum := by rw [List.map_map]; rfl
  unfold encE10
  rw [List.length_append]
  rw [List.length_map] at h1
  omega
theorem codes_row (A : Option Addr) (c : Nat) (xs : List OpV) (Ab : Option Addr) (cb : Nat) (bs : List Int) (w : World) (ok0 : (K.slice 48 (K.st KOp)).ok w ((A, c), xs)) (ok1 : (K.slice 1 (K.int .u8)).ok w ((Ab, cb), bs)) (hbk : (K.slice 48 (K.st KOp)).bulk ((A, c), xs) ≤ 1048576) (hh : HT w) :
    Calls Tryd.prog 5 #[.slice A xs.length c, .slice Ab bs.length cb] w fun e w' => e = .returned (.bool true) ∧ Below w.heap.size w w' := by
  obtain ⟨h1, h2⟩ := ops_of_k ok0
  obtain ⟨h3, h4, h5⟩ := RdB.of_k ok1
  have h6 := codes_any A c (xs.map OpV.pt) Ab (toB bs) cb w h1 h2 (fun hl => encE_bulk hbk hl) h5 h4 h3 (fun a ha hp => Rd.lt h3 (by rw [length_encB]; exact hp) ha) hh
  rw [List.length_map, length_toB] at h6
  exact h6.mono fun _ _ h => ⟨h.1, h.2.below (Nat.le_refl _) (by simp)⟩
end Go.Proofs.YtljinghhalcnnaaDoor
