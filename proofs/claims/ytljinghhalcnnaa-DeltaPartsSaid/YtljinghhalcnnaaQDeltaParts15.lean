/- The law on the parts that tell a block: called with any blocks it answers true. How a statement's arguments are read: from data to the words of Base. No program is named here. The count of the statements' second form, as XKinds wants it. -/
import Derived.Test.YtljinghhalcnnaaQDeltaParts13
import Derived.Test.YtljinghhalcnnaaQDeltaParts14
import Derived.Deep.DeepCutAuto
import Derived.Test.YtljinghhalcnnaaQDeltaParts1
import Derived.ProofKit
import Derived.OpenShut
import Derived.SizedLaws
import Derived.Test.YtljinghhalcnnaaRows
namespace Go.Proofs.Ytljinghhalcnnaa
open Go.RowKit

/-- Where a part's bytes stand in the block. -/
theorem Tl.at {base target : List UInt8} {ps : List Pa} (h : Tl base target 64 ps) (ht : target.length = 64) {i : Nat} (hi : i < ps.length) :
    ((ps.take i).flatMap (partBy base)).length + (partBy base ps[i]).length ≤ 64 ∧ (target.drop ((ps.take i).flatMap (partBy base)).length).take (partBy base ps[i]).length = partBy base ps[i] ∧ ((ps.take (i + 1)).flatMap (partBy base)).length = ((ps.take i).flatMap (partBy base)).length + (partBy base ps[i]).length := by
  have h1 := h.is
  rw [List.take_of_length_le (by omega)] at h1
  have h2 : target = (ps.take i).flatMap (partBy base) ++ (partBy base ps[i] ++ (ps.drop (i + 1)).flatMap (partBy base)) := by
    rw [← h1]
    conv => lhs; rw [← List.take_append_drop i ps, List.drop_eq_getElem_cons hi, List.flatMap_append, List.flatMap_cons]
  refine ⟨?_, ?_, ?_⟩
  · have h3 := congrArg List.length h2
    rw [List.length_append, List.length_append, ht] at h3
    omega
  · conv => lhs; arg 2; rw [h2]
    rw [List.drop_left, List.take_left]
  · rw [List.take_succ_eq_append_getElem hi, List.flatMap_append, List.length_append, List.flatMap_singleton]
theorem Tl.all {base target : List UInt8} {ps : List Pa} (h : Tl base target 64 ps) (ht : target.length = 64) : ((ps.take ps.length).flatMap (partBy base)).length = 64 := by
  rw [List.take_length, h.is, List.length_take]
  omega
set_option maxRecDepth 100000 in
set_option maxHeartbeats 16000000 in
theorem parts_any (base target : List UInt8) (hb : base.length = 64) (ht : target.length = 64) (w : World) :
    Calls Try.prog 5 #[.agg (encB base).toArray, .agg (encB target).toArray] w fun r w' => r = .returned (.bool true) ∧ Keeps [] w w' := by
  have HL := Lib.hid (And.intro hb ht)
  obtain ⟨bs, hbs⟩ : ∃ bs, bs = (encB base).toArray := ⟨_, rfl⟩
  obtain ⟨ts, hts⟩ : ∃ ts, ts = (encB target).toArray := ⟨_, rfl⟩
  obtain ⟨g, hg⟩ : ∃ g, g = w.heap.size := ⟨_, rfl⟩
  obtain ⟨gh, hh⟩ : ∃ h, h = w.heap.size + 1 := ⟨_, rfl⟩
  obtain ⟨W, hW⟩ : ∃ W, W = (w.alloc (.cells bs 23)).alloc (.cells ts 23) := ⟨_, rfl⟩
  have HB := Lib.hid (show Bx w W g gh base target from by
    refine ⟨?_, ?_, ?_⟩
    · rw [hW, hg, hbs]; exact heap_alloc2_old _ _ _
    · rw [hW, hh, hts]; exact heap_alloc2_new _ _ _
    · rw [hW]; exact ((Keeps.refl [] w).alloc _).alloc _)
  have HW := Lib.hid (show W = (w.alloc (.cells bs 23)).alloc (.cells ts 23) ∧ gh = w.heap.size + 1 ∧ g = w.heap.size from ⟨hW, hh, hg⟩)
  have HBS := Lib.hid (show bs = (encB base).toArray ∧ ts = (encB target).toArray from ⟨hbs, hts⟩)
  have HIA := Lib.hid (show (Try.prog.info? 23).map (·.size) = some bs.size from by rw [hbs]; exact hsz64' base hb)
  have HIB := Lib.hid (show (Try.prog.info? 23).map (·.size) = some ts.size from by rw [hts]; exact hsz64' target ht)
  rw [← hbs, ← hts]
  clear hb ht hbs hts hg hh hW
  go_enter Try.func5, Try.ntmps5
  go_upto_region 1 with fail
  rw [← HW.out.1, ← HW.out.2.1, ← HW.out.2.2]
  go_wp2_with (first
    | (refine wpList_load_row rfl 23 (.tmp 2) rfl g rfl 23 bs (0, 0) _ (by rw [HBS.out.1]; exact HB.out.b) Try.underlying23 rfl HIA.out ?_)
    | (refine wpList_load_row rfl 23 (.tmp 3) rfl gh rfl 23 ts (0, 0) _ (by rw [HBS.out.2]; exact HB.out.t) Try.underlying23 rfl HIB.out ?_))
  have HC := ops_any base target HL.out.1 HL.out.2 W
  rw [← HBS.out.1, ← HBS.out.2] at HC
  refine HC.mono ?_
  clear HC
  rintro r w1 ⟨A, c, ls, rfl, hop, hls, hlen, _⟩
  have HT := Lib.hid (opsE_tl base target HL.out.1 HL.out.2)
  obtain ⟨ps, hps⟩ : ∃ ps, ps = opsE base target := ⟨_, rfl⟩
  rw [← hps] at HT hls
  obtain ⟨n, hn⟩ : ∃ n, n = ls.length := ⟨_, rfl⟩
  have HO := Lib.hid (show OpI W w1 A c ls ∧ ls.map Pt.p = ps ∧ n = ls.length ∧ ps.length = n from ⟨hop, hls, hn, by rw [← hls, List.length_map, hn]⟩)
  have HRD := Lib.hid (Rd.of_own hop.own)
  have hn64 : n ≤ 64 := by omega
  have B1 := Lib.hid (HB.out.keeps0 hop.kp)
  rw [← hn]
  clear hop hls hlen hps hn
  go_wp2_with fail
  go_loopw [6, 7] (fun s6 s7 wr => ∃ i a : Nat, s7 = .int .i64 i ∧ s6 = .int .i64 a ∧ i ≤ n ∧ a ≤ 64 ∧ Hid (a = ((ps.take i).flatMap (partBy base)).length ∧ Keeps [] w1 wr)) (fun _ s7 _ => n - (intOf s7).toNat)
  case atStart => exact ⟨0, 0, rfl, rfl, Nat.zero_le _, Nat.zero_le _, ⟨by simp, Keeps.refl [] w1⟩⟩
  case round =>
    obtain ⟨i, a, rfl, rfl, hin, ha64, D⟩ := hrel
    by_cases hlt : i < n
    · have hlti : (i : Int) < (n : Int) := by omega
      have HIL := Lib.hid (show i < ls.length ∧ i < ps.length ∧ i < n from by have := HO.out; omega)
      have HRR := Lib.hid (HRD.out.keeps0 D.out.2)
      obtain ⟨ga, oa, hA, k0, k1, k2, k3⟩ := pt_cells HRR.out HIL.out.1
      subst hA
      obtain ⟨t, htt⟩ : ∃ t, t = ls[i]'(HIL.out.1) := ⟨_, rfl⟩
      rw [← htt] at k0 k1 k2 k3
      have HTT := Lib.hid (show t ∈ ls ∧ ps[i]'(HIL.out.2.1) = t.p from ⟨by rw [htt]; exact List.getElem_mem _, by rw [htt]; simp [← HO.out.2.1]⟩)
      obtain ⟨x, hx⟩ : ∃ x, x = partBy base t.p := ⟨_, rfl⟩
      have HAT := Lib.hid (show a + x.length ≤ 64 ∧ (target.drop a).take x.length = x ∧ ((ps.take (i + 1)).flatMap (partBy base)).length = a + x.length from by
        have h1 := HT.out.at HL.out.2 HIL.out.2.1
        rw [HTT.out.2, ← hx, ← D.out.1] at h1
        exact h1)
      have HMP := Lib.hid (show t.p ∈ ps from by rw [← HTT.out.2]; exact List.getElem_mem _)
      obtain ⟨gx, hgx⟩ : ∃ gx, gx = wr.heap.size := ⟨_, rfl⟩
      obtain ⟨w4, hw4⟩ : ∃ w4, w4 = wr.alloc (.cells #[.bool t.p.cp, .int .i64 t.p.fr, .int .i64 t.p.ln, .slice t.A t.p.b.length t.c] 42) := ⟨_, rfl⟩
      have HXX := Lib.hid (show Keeps [] wr w4 ∧ w4.heap[gx]? = some (.cells #[.bool t.p.cp, .int .i64 t.p.fr, .int .i64 t.p.ln, .slice t.A t.p.b.length t.c] 42 (0, 0)) from ⟨by rw [hw4]; exact (Keeps.refl [] wr).alloc _, by rw [hw4, hgx]; exact heap_alloc_new _ _⟩)
      have HW2 := Lib.hid (And.intro hw4 hgx)
      have D4 := Lib.hid (show Bx w w4 g gh base target ∧ Keeps [] w1 w4 from ⟨(B1.out.keeps0 D.out.2).keeps0 HXX.out.1, D.out.2.trans HXX.out.1 (by simp)⟩)
      clear hw4 hgx htt hlt hin
      go_upto_region 7 with fail
      rw [← HW2.out.1, ← HW2.out.2]
      clear k0 k1 k2 k3
      have k0 : w4.cell? ⟨gx, 0, none⟩ = some (.bool t.p.cp) := by rw [cell_of_row _ _ _ _ _ _ HXX.out.2]; rfl
      have k1 : w4.cell? ⟨gx, 1, none⟩ = some (.int .i64 t.p.fr) := by rw [cell_of_row _ _ _ _ _ _ HXX.out.2]; rfl
      have k2 : w4.cell? ⟨gx, 2, none⟩ = some (.int .i64 t.p.ln) := by rw [cell_of_row _ _ _ _ _ _ HXX.out.2]; rfl
      have k3 : w4.cell? ⟨gx, 3, none⟩ = some (.slice t.A t.p.b.length t.c) := by rw [cell_of_row _ _ _ _ _ _ HXX.out.2]; rfl
      cases hcp : t.p.cp
      case' true =>
        rw [hcp] at k0
        have h1 := HT.out.cp t.p HMP.out hcp
        obtain ⟨f, hf⟩ : ∃ f : Nat, (f : Int) = t.p.fr := ⟨t.p.fr.toNat, by omega⟩
        obtain ⟨m, hm⟩ : ∃ m : Nat, (m : Int) = t.p.ln := ⟨t.p.ln.toNat, by omega⟩
        obtain ⟨q, hq⟩ : ∃ q, q = f + m := ⟨_, rfl⟩
        rw [← hf] at k1
        rw [← hm] at k2
        have dq : (f : Int) + (m : Int) = (q : Int) := by omega
        have u1 : ¬ (m : Int) < 4 := by omega
        have u2 : ¬ (f : Int) < 0 := by omega
        have u3 : ¬ (64 : Int) < (m : Int) := by omega
        have u4 : ¬ (64 : Int) - (m : Int) < (f : Int) := by omega
        have u5 : wrap64 (64 - (m : Int)) = 64 - (m : Int) := by unfold wrap64; omega
        have u6 : f ≤ q := by omega
        have u7 : q ≤ 64 := by omega
        have HX := Lib.hid (show x = (base.drop f).take m ∧ x.length = m ∧ q - f = m ∧ f + m ≤ 64 from by
          have e1 : x = (base.drop f).take m := by
            rw [hx]
            unfold partBy
            rw [hcp, if_pos rfl, ← hf, ← hm]
            rfl
          exact ⟨e1, by rw [e1, List.length_take, List.length_drop, HL.out.1]; omega, by omega, by omega⟩)
        clear hq hf hm hx h1
        go_upto_region 14 with (refine wpList_secArr rfl 23 (.tmp 2) (some (.tmp 49)) (some (.tmp 54)) none rfl Try.underlying23 infoB1d ⟨g, 0, none⟩ f q 64 rfl (Bnd.at_ rfl) (Bnd.at_ rfl) Bnd.no u6 u7 (Nat.le_refl _) (by simp) ?_)
        rw [HX.out.2.2.1]
        have HS : ∃ (SA : Option Addr) (cc : Nat), SA = secA (some ⟨g, 0, none⟩) f 64 1 ∧ cc = 64 - f ∧ (∀ z, Keeps [] w4 z → RdB z SA x) := ⟨_, _, rfl, rfl, fun z hz => by
          rw [HX.out.1]
          exact (rdb_row (D4.out.1.keeps0 hz).b).sec f m 64 (by rw [HL.out.1]; exact HX.out.2.2.2) HX.out.2.2.2⟩
        obtain ⟨SA, cc, hSA, hcc, hSR⟩ := HS
        rw [← hSA, ← hcc]
        have HS := Lib.hid (show (∀ z, Keeps [] w4 z → RdB z SA x) ∧ x.length = m from ⟨hSR, HX.out.2.1⟩)
        clear hSA hcc hSR HX u1 u2 u3 u4 u5 u6 u7 dq k0 k1 k2 k3 hcp
      rotate_left
      case' false =>
        rw [hcp] at k0
        have h1 := HT.out.td t.p HMP.out hcp
        have ex : x = t.p.b := by rw [hx]; unfold partBy; rw [hcp, if_neg (by simp)]
        have HX := Lib.hid (show ∀ z, Keeps [] w4 z → RdB z t.A x from fun z hz => by rw [ex]; exact ((HO.out.1.rd t HTT.out.1).1.keeps0 (D4.out.2.trans hz (by simp))).rd)
        obtain ⟨m, hm⟩ : ∃ m, m = x.length := ⟨_, rfl⟩
        have em : t.p.b.length = m := by rw [hm, ex]
        rw [em] at k3
        have HM := Lib.hid hm.symm
        have hm1 : 0 < m := by rw [hm, ex]; exact List.length_pos_iff.2 h1.1
        have hm2 : ¬ (m : Int) = 0 := by omega
        have hm3 : ((m : Int) == 0) = false := beq_eq_false_iff_ne.2 hm2
        have hm4 : m ≤ 64 := by have := HAT.out.1; omega
        clear ex hx em hm h1
        rcases (show 0 < i ∨ ¬ 0 < i by omega) with h0 | h0
        case' inl =>
          obtain ⟨i1, hi1⟩ : ∃ i1, i1 = i - 1 := ⟨_, rfl⟩
          have h0i : (0 : Int) < (i : Int) := by omega
          have di : (i : Int) - 1 = (i1 : Int) := by omega
          have hi1n : i1 < n := by have := HIL.out; omega
          have HI1 := Lib.hid (show i1 < ls.length from by have := HO.out; omega)
          obtain ⟨gb, ob, hA, r0, _, _, _⟩ := pt_cells (HRR.out.keeps0 HXX.out.1) HI1.out
          injection hA with hA
          injection hA with hA1 hA2
          subst hA1 hA2
          have ecp : (ls[i1]'(HI1.out)).p.cp = true := by
            have h2 : i1 + 1 < ps.length := by have := HIL.out.2.1; omega
            have h3 := HT.out.two i1 h2
            have h4 : ps[i1 + 1] = t.p := by rw [← HTT.out.2]; congr 1; omega
            rw [h4, hcp] at h3
            have h5 : ps[i1] = (ls[i1]'(HI1.out)).p := by simp [← HO.out.2.1]
            rw [h5] at h3
            simpa using h3
          rw [ecp] at r0
          clear hi1 ecp hcp
          go_upto_region 14 with fail
          clear h0i di r0
        rotate_left
        case' inr =>
          have h0i : ¬ (0 : Int) < (i : Int) := by omega
          clear hcp
          go_upto_region 14 with fail
          clear h0i
        all_goals
          obtain ⟨SA, hSA⟩ : ∃ SA, SA = t.A := ⟨_, rfl⟩
          obtain ⟨cc, hcc⟩ : ∃ cc, cc = t.c := ⟨_, rfl⟩
          rw [← hSA] at HX
          rw [← hSA, ← hcc]
          have HS := Lib.hid (And.intro HX.out HM.out)
          clear hSA hcc HX HM hm1 hm2 hm3 hm4 k0 k1 k2 k3 h0
      all_goals
        obtain ⟨q2, hq2⟩ : ∃ q2, q2 = a + m := ⟨_, rfl⟩
        have hq64 : q2 ≤ 64 := by have := HAT.out.1; have := HS.out.2; omega
        have hpq : a ≤ q2 := by omega
        have d2 : (a : Int) + (m : Int) = (q2 : Int) := by omega
        have f2 : IntKind.i64.wrap (q2 : Int) = (q2 : Int) := by rw [IntKind.wrap_i64]; omega
        have f3 : IntKind.i64.wrap (64 - (a : Int)) = 64 - (a : Int) := by rw [IntKind.wrap_i64]; omega
        have f4 : ¬ (64 : Int) - (a : Int) < (m : Int) := by omega
        obtain ⟨SB, hSB⟩ : ∃ SB, SB = secA (some ⟨gh, 0, none⟩) a 64 1 := ⟨_, rfl⟩
        have HSB := Lib.hid (show SB = secA (some ⟨gh, 0, none⟩) a 64 1 ∧ q2 - a = m ∧ a + m ≤ 64 from ⟨hSB, by omega, by omega⟩)
        have HQ := Lib.hid hq2
        have FA : ∀ z, Keeps [] w4 z → (convert 31 9 (.slice SB m (64 - a))).run Try.prog z = .ok (.string (strB x)) z := fun z hz => by
          have h1 := run_conv_str (P := Try.prog) z (dst := 9) Try.underlying31 Try.underlying5 Try.underlying9 (A := SB) (l := x) (by
            have h2 := (rdb_row (D4.out.1.keeps0 hz).t).sec a x.length 64 (by rw [HL.out.2]; exact HAT.out.1) HAT.out.1
            rw [HAT.out.2.1] at h2
            rw [HSB.out.1]
            exact h2) (64 - a)
          rwa [HS.out.2] at h1
        have FB : ∀ z, Keeps [] w4 z → (convert 31 9 (.slice SA m cc)).run Try.prog z = .ok (.string (strB x)) z := fun z hz => by
          have h1 := run_conv_str (P := Try.prog) z (dst := 9) Try.underlying31 Try.underlying5 Try.underlying9 (A := SA) (l := x) (HS.out.1 z hz) cc
          rwa [HS.out.2] at h1
        clear hq2 hSB
        refine seq_start (by kernel_rfl) (fun z => Keeps [] w4 z) 17 [0, 1, 2, 3, 4, 5, 6, 7, 8, 9, 10, 11, 12, 13, 14, 15, 16] rfl ((Keeps.refl [] w4).drew) (fun hS => ?_)
        refine seq_take (v := ?_) rfl (by kernel_rfl) (by kernel_rfl) (by kernel_rfl) (Or.inl ⟨by rfl, fun w' hSw => ?_⟩) (by assumption) ?_
        rotate_left
        · go_simp
          with_reducible rfl
        simp only [Act.put, List.setIfInBounds_toArray, List.set_cons_zero, List.set_cons_succ]
        refine seq_take (v := ?_) rfl (by kernel_rfl) (by kernel_rfl) (by kernel_rfl) (Or.inl ⟨by rfl, fun w' hSw => ?_⟩) (by assumption) ?_
        rotate_left
        · go_simp
          with_reducible rfl
        simp only [Act.put, List.setIfInBounds_toArray, List.set_cons_zero, List.set_cons_succ]
        refine seq_take (v := ?_) rfl (by kernel_rfl) (by kernel_rfl) (by kernel_rfl) (Or.inl ⟨by rfl, fun w' hSw => ?_⟩) (by assumption) ?_
        rotate_left
        · go_simp
          with_reducible rfl
        simp only [Act.put, List.setIfInBounds_toArray, List.set_cons_zero, List.set_cons_succ]
        refine seq_take (v := ?_) rfl (by kernel_rfl) (by kernel_rfl) (by kernel_rfl) (Or.inl ⟨by rfl, fun w' hSw => ?_⟩) (by assumption) ?_
        rotate_left
        · go_simp
          with_reducible rfl
        simp only [Act.put, List.setIfInBounds_toArray, List.set_cons_zero, List.set_cons_succ]
        refine seq_take (v := ?_) rfl (by kernel_rfl) (by kernel_rfl) (by kernel_rfl) (Or.inl ⟨by rfl, fun w' hSw => ?_⟩) (by assumption) ?_
        rotate_left
        · go_simp
          with_reducible rfl
        simp only [Act.put, List.setIfInBounds_toArray, List.set_cons_zero, List.set_cons_succ]
        refine seq_take (v := ?_) rfl (by kernel_rfl) (by kernel_rfl) (by kernel_rfl) (Or.inl ⟨by rfl, fun w' hSw => ?_⟩) (by assumption) ?_
        rotate_left
        · go_simp
          with_reducible rfl
        simp only [Act.put, List.setIfInBounds_toArray, List.set_cons_zero, List.set_cons_succ]
        refine seq_take (v := ?_) rfl (by kernel_rfl) (by kernel_rfl) (by kernel_rfl) (Or.inl ⟨by rfl, fun w' hSw => ?_⟩) (by assumption) ?_
        rotate_left
        · go_simp
          with_reducible rfl
        simp only [Act.put, List.setIfInBounds_toArray, List.set_cons_zero, List.set_cons_succ]
        refine seq_take (v := ?_) rfl (by kernel_rfl) (by kernel_rfl) (by kernel_rfl) (Or.inl ⟨by rfl, fun w' hSw => ?_⟩) (by assumption) ?_
        rotate_left
        · go_simp
          with_reducible rfl
        simp only [Act.put, List.setIfInBounds_toArray, List.set_cons_zero, List.set_cons_succ]
        refine seq_take (v := ?_) rfl (by kernel_rfl) (by kernel_rfl) (by kernel_rfl) (Or.inl ⟨by rfl, fun w' hSw => ?_⟩) (by assumption) ?_
        rotate_left
        · go_simp
          with_reducible rfl
        simp only [Act.put, List.setIfInBounds_toArray, List.set_cons_zero, List.set_cons_succ]
        refine seq_take (v := ?_) rfl (by kernel_rfl) (by kernel_rfl) (by kernel_rfl) (Or.inl ⟨by rfl, fun w' hSw => ?_⟩) (by assumption) ?_
        rotate_left
        · go_simp
          with_reducible rfl
        simp only [Act.put, List.setIfInBounds_toArray, List.set_cons_zero, List.set_cons_succ]
        refine seq_take (v := ?_) rfl (by kernel_rfl) (by kernel_rfl) (by kernel_rfl) (Or.inl ⟨by rfl, fun w' hSw => ?_⟩) (by assumption) ?_
        rotate_left
        · go_simp
          with_reducible rfl
        simp only [Act.put, List.setIfInBounds_toArray, List.set_cons_zero, List.set_cons_succ]
        refine seq_take (v := .slice SB m (64 - a)) rfl (by kernel_rfl) (by kernel_rfl) (by kernel_rfl) ?_ (by assumption) ?_
        · exact yieldsIf_secArr2 (by rfl) 23 (.tmp 3) (some (.tmp 78)) (some (.tmp 82)) (by rfl) Try.underlying23 infoB1d ⟨gh, 0, none⟩ a q2 (by rfl) (Bnd.at_ (by rfl)) (Bnd.at_ (by rfl)) hpq hq64 _ (by rw [HSB.out.1, HSB.out.2.1])
        simp only [Act.put, List.setIfInBounds_toArray, List.set_cons_zero, List.set_cons_succ]
        refine seq_take (v := ?_) rfl (by kernel_rfl) (by kernel_rfl) (by kernel_rfl) (Or.inl ⟨by rfl, fun w' hSw => ?_⟩) (by assumption) ?_
        rotate_left
        · go_simp
          with_reducible rfl
        simp only [Act.put, List.setIfInBounds_toArray, List.set_cons_zero, List.set_cons_succ]
        refine seq_take (v := ?_) rfl (by kernel_rfl) (by kernel_rfl) (by kernel_rfl) (Or.inl ⟨by rfl, fun w' hSw => ?_⟩) (by assumption) ?_
        rotate_left
        · go_simp
          with_reducible rfl
        simp only [Act.put, List.setIfInBounds_toArray, List.set_cons_zero, List.set_cons_succ]
        refine seq_take (v := ?_) rfl (by kernel_rfl) (by kernel_rfl) (by kernel_rfl) (Or.inl ⟨by rfl, fun w' hSw => ?_⟩) (by assumption) ?_
        rotate_left
        · go_simp
          with_reducible rfl
        simp only [Act.put, List.setIfInBounds_toArray, List.set_cons_zero, List.set_cons_succ]
        refine seq_take (v := ?_) rfl (by kernel_rfl) (by kernel_rfl) (by kernel_rfl) (Or.inl ⟨by rfl, fun w' hSw => ?_⟩) (by assumption) ?_
        rotate_left
        · go_simp
          with_reducible rfl
        simp only [Act.put, List.setIfInBounds_toArray, List.set_cons_zero, List.set_cons_succ]
        refine seq_take (v := ?_) rfl (by kernel_rfl) (by kernel_rfl) (by kernel_rfl) (Or.inl ⟨by rfl, fun w' hSw => ?_⟩) (by assumption) ?_
        rotate_left
        · go_simp
          with_reducible rfl
        simp only [Act.put, List.setIfInBounds_toArray, List.set_cons_zero, List.set_cons_succ]
        refine seq_done (by kernel_rfl) ?_
        all_goals skip
        clear hS FA FB
        have D5 := Lib.hid (show q2 = ((ps.take (i + 1)).flatMap (partBy base)).length ∧ Keeps [] w1 w4.drew ∧ i + 1 ≤ n ∧ q2 ≤ 64 from ⟨by rw [HAT.out.2.2, HQ.out, HS.out.2], D4.out.2.drew, HIL.out.2.2, hq64⟩)
        go_wp2_with fail
        go_roundw
        case rel => exact ⟨i + 1, q2, by go_num, rfl, D5.out.2.2.1, D5.out.2.2.2, ⟨D5.out.1, D5.out.2.1⟩⟩
        case measure => have := HIL.out; simp [intOf]; omega
    · have hlti : ¬ (i : Int) < (n : Int) := by omega
      have HE := Lib.hid (show a = 64 from by
        have h1 := HT.out.all HL.out.2
        rw [D.out.1, show i = ps.length by have := HO.out.2.2.2; omega]
        exact h1)
      have ha : (a : Int) = 64 := by have := HE.out; omega
      have hab : ((a : Int) == 64) = true := by rw [ha]; rfl
      clear hlt hin
      go_wp2_with fail
      refine (sure10_any _).mono ?_
      rintro r w5 ⟨rfl, hk5⟩
      have H5 := Lib.hid (show Keeps [] w w5 from (B1.out.kp.trans D.out.2 (by simp)).trans hk5 (by simp))
      clear hk5
      go_wp2_with fail
      go_ret
      exact ⟨rfl, H5.out⟩
theorem parts_row (xs ys : List Int) (w : World) (ok1 : (K.arr 64 (K.int .u8)).ok w xs) (ok2 : (K.arr 64 (K.int .u8)).ok w ys) :
    Calls Try.prog 5 #[.agg ((K.arr 64 (K.int .u8)).cells xs).toArray, .agg ((K.arr 64 (K.int .u8)).cells ys).toArray] w fun e w' => e = .returned (.bool true) ∧ Below w.heap.size w w' := by
  obtain ⟨e1, e2⟩ := arrB_of_k ok1
  obtain ⟨e3, e4⟩ := arrB_of_k ok2
  rw [e1, e3]
  exact (parts_any (toB xs) (toB ys) e2 e4 w).mono fun _ _ h => ⟨h.1, h.2.below (Nat.le_refl _) (by simp)⟩
end Go.Proofs.Ytljinghhalcnnaa
namespace Go.Proofs.Ytljinghhalcnnaa
open Go.RowKit Go.ChangeShapes Go.WideShapes Go.ChangeAt

theorem wf_u8 {n : Int} (h : (Lit.int .u8 n).wf = true) : 0 ≤ n ∧ n ≤ 255 := by
  simpa [Lit.wf, IntKind.min, IntKind.max, IntKind.signed, IntKind.bits] using h
theorem wf_u32 {n : Int} (h : (Lit.int .u32 n).wf = true) : 0 ≤ n ∧ n ≤ 4294967295 := by
  simpa [Lit.wf, IntKind.min, IntKind.max, IntKind.signed, IntKind.bits] using h
theorem wf_u64 {n : Int} (h : (Lit.int .u64 n).wf = true) : 0 ≤ n ∧ n ≤ 18446744073709551615 := by
  simpa [Lit.wf, IntKind.min, IntKind.max, IntKind.signed, IntKind.bits] using h
theorem wf_i64 {n : Int} (h : (Lit.int .i64 n).wf = true) : -9223372036854775808 ≤ n ∧ n ≤ 9223372036854775807 := by
  simpa [Lit.wf, IntKind.min, IntKind.max, IntKind.signed, IntKind.bits] using h

theorem u8_of {n : Int} (h : 0 ≤ n ∧ n ≤ 255) : ((UInt8.ofNat n.toNat).toNat : Int) = n := by
  rw [UInt8.toNat_ofNat']; omega

theorem encB_of (zs : List Int) (h : ∀ n ∈ zs, 0 ≤ n ∧ n ≤ 255) : encB (zs.map fun n => UInt8.ofNat n.toNat) = zs.map (Value.int .u8) := by
  unfold encB
  rw [List.map_map]
  refine List.map_congr_left (fun n hn => ?_)
  simp only [Function.comp]
  rw [u8_of (h n hn)]

theorem open_bytes {H : Type} {enc : TypeId × Value → H} {P : Program} {W : World} {r : Reach} {base : Nat} {b0 : Nat} {spare : Nat → Bool} {held : Bool} {t e : TypeId} {v : Value} {d : DataW H} {ps : List MemPlace} {ts : List TypeId} {ds : List (DataW H)} {j : Nat}
    (hu : P.underlying t = some (.slice e)) (he : P.underlying e = some (.int .u8)) (hc : P.cellsOf e = 1) (hB : P.bytesOf e = 1)
    (hsz : (DataW.weightsEach P ts ds).all (· ≤ reachBytes) = true) (ht : ts[j]? = some t) (hd : ds[j]? = some d)
    (hval : Value.okWide P W r b0 t v) (h : DataW.Trod enc P W base spare held t v d ps) :
    ∃ A l c, v = .slice A l.length c ∧ RdB W A l ∧ l.length ≤ 140737488351232 ∧ l.length ≤ c := by
  obtain ⟨A, len, cap, rfl⟩ := okWide_slice hu hval
  obtain ⟨fuel, hf⟩ := h
  rcases open_ints hu he hc hf with ⟨hcs, _⟩ | ⟨x, l, c, zs, hcs, _, hl, _, hz, hx, hcell, hw⟩
  · simp [Value.cells] at hcs
    obtain ⟨rfl, rfl, rfl⟩ := hcs
    exact ⟨none, [], 0, rfl, RdB.nil _ _, by simp, by simp⟩
  · simp [Value.cells] at hcs
    obtain ⟨rfl, rfl, rfl⟩ := hcs
    obtain ⟨hx, _⟩ := Prod.mk.inj hx
    subst hx
    have z := sized_slice hsz ht hd hu
    rw [hB] at z
    have hl2 : len ≤ zs.length := by
      rw [hz]
      split
      · exact hl
      · exact Nat.le_refl _
    have hlen : ((zs.take len).map fun n => UInt8.ofNat n.toNat).length = len := by simp; omega
    have hen : encB ((zs.take len).map fun n => UInt8.ofNat n.toNat) = (zs.take len).map (Value.int .u8) := encB_of _ (fun n hn => wf_u8 (hw n (List.mem_of_mem_take hn)))
    refine ⟨some x, (zs.take len).map fun n => UInt8.ofNat n.toNat, cap, by rw [hlen], ?_, ?_, by rw [hlen]; exact hl⟩
    · unfold RdB
      rw [hen]
      refine ⟨by simp, fun _ => ⟨x, rfl, fun j u hu => ?_⟩⟩
      rw [List.getElem?_map, List.getElem?_take] at hu
      by_cases hj : j < len
      · rw [if_pos hj] at hu
        have := hcell j (by omega)
        rw [List.getElem?_eq_getElem (by omega)] at hu
        rw [this]
        simp only [Option.map_some, Option.some.injEq] at hu
        rw [← hu]
        simp [List.getD_eq_getElem?_getD, List.getElem?_eq_getElem (show j < zs.length by omega)]
      · rw [if_neg hj] at hu; cases hu
    · have h1 : (lits (H := H) .u8 (zs.take len)).length + (lits (H := H) .u8 (zs.drop len)).length = zs.length := by
        simp [lits]
        omega
      rw [h1] at z
      unfold reachBytes at z
      rw [hlen]
      omega

/-- An array of whole numbers, by value. -/
theorem open_arr {H : Type} {enc : TypeId × Value → H} {P : Program} {W : World} {r : Reach} {base : Nat} {b0 : Nat} {spare : Nat → Bool} {held : Bool} {t e : TypeId} {q : IntKind} {n : Nat} {v : Value} {d : DataW H} {ps : List MemPlace}
    (hu : P.underlying t = some (.array n e)) (he : P.underlying e = some (.int q)) (hc : P.cellsOf e = 1) (hC : P.cellsOf t = n)
    (hval : Value.okWide P W r b0 t v) (h : DataW.Trod enc P W base spare held t v d ps) :
    ∃ xs : List Int, v = .agg (xs.map (Value.int q)).toArray ∧ xs.length = n ∧ ∀ x ∈ xs, (Lit.int q x).wf = true := by
  simp only [Value.okWide, hu] at hval
  obtain ⟨cs, rfl, hs, _⟩ := hval
  rw [hC] at hs
  obtain ⟨fuel, hf⟩ := h
  obtain ⟨ys, m, _, _, hlen, hl, hel⟩ := DataW.trod_array hu hf
  have each : ∀ i, i < n → ∃ z : Int, cs[i]? = some (.int q z) ∧ (Lit.int q z).wf = true := by
    intro i hi
    have h1 := hel i hi
    rw [hc, Nat.mul_one, List.getElem?_eq_getElem (by omega)] at h1
    obtain ⟨z, hz, _, hw⟩ := DataW.trod_int he h1
    refine ⟨z, ?_, hw⟩
    have h2 : ((Value.agg cs).cells.toList.drop i).take 1 = [.int q z] := hz
    have h3 := congrArg (fun l => l[0]?) h2
    simpa [Value.cells] using h3
  refine ⟨cs.toList.map (fun v => match v with | .int _ z => z | _ => 0), ?_, by simp [hs], ?_⟩
  · congr 1
    apply Array.ext
    · simp
    · intro i h1 h2
      obtain ⟨z, hz, _⟩ := each i (by omega)
      rw [Array.getElem?_eq_getElem h1] at hz
      simp [Option.some.inj hz]
  · intro x hx
    rw [List.mem_map] at hx
    obtain ⟨v, hv, rfl⟩ := hx
    obtain ⟨i, hi, rfl⟩ := List.mem_iff_getElem.1 hv
    obtain ⟨z, hz, hw⟩ := each i (by simpa [hs] using hi)
    simp at hi
    rw [Array.getElem?_eq_getElem hi] at hz
    simp only [Array.getElem_toList, Option.some.inj hz]
    exact hw
theorem open_arrB {H : Type} {enc : TypeId × Value → H} {P : Program} {W : World} {r : Reach} {base : Nat} {b0 : Nat} {spare : Nat → Bool} {held : Bool} {t e : TypeId} {n : Nat} {v : Value} {d : DataW H} {ps : List MemPlace}
    (hu : P.underlying t = some (.array n e)) (he : P.underlying e = some (.int .u8)) (hc : P.cellsOf e = 1) (hC : P.cellsOf t = n)
    (hval : Value.okWide P W r b0 t v) (h : DataW.Trod enc P W base spare held t v d ps) :
    ∃ l : List UInt8, v = .agg (encB l).toArray ∧ l.length = n := by
  obtain ⟨xs, rfl, hl, hw⟩ := open_arr hu he hc hC hval h
  exact ⟨xs.map fun n => UInt8.ofNat n.toNat, by rw [encB_of _ (fun x hx => wf_u8 (hw x hx))], by simpa using hl⟩
end Go.Proofs.Ytljinghhalcnnaa
namespace Go.Proofs.Ytljinghhalcnnaa
open Go.RowKit

theorem bulkAll_eq {H : Type} : ∀ l : List (DataW H), Rows.uptoBulkAll l = (l.map Rows.uptoBulk).sum
  | [] => by simp [Rows.uptoBulkAll]
  | x :: r => by simp only [Rows.uptoBulkAll, List.map_cons, List.sum_cons, bulkAll_eq r]
theorem bulkLike (H : Type) : BulkLike (Rows.uptoBulk (H := H)) where
  one d := by
    cases d with
    | lit l => cases l <;> simp [Rows.uptoBulk]
    | nil => simp [Rows.uptoBulk]
    | ptr d => simp [Rows.uptoBulk]
    | slice elems spare => simp [Rows.uptoBulk]
    | agg parts => simp [Rows.uptoBulk]
    | iface t d => simp [Rows.uptoBulk]
    | map entries => simp [Rows.uptoBulk]
    | held h => simp [Rows.uptoBulk]
  str l := by simp [Rows.uptoBulk]
  slice e s := by simp only [Rows.uptoBulk, bulkAll_eq]; omega
  agg e := by simp only [Rows.uptoBulk, bulkAll_eq]; omega
theorem bulk_of {H : Type} {l : List (DataW H)} (hk : Rows.uptoSmall H l = true) : (l.map Rows.uptoBulk).sum ≤ 1048576 := by
  rw [← bulkAll_eq]
  exact of_decide_eq_true hk
end Go.Proofs.Ytljinghhalcnnaa
