/- The document's parts of bytes: the walk. What is taken off as a number was laid as one: plain lists. What bytes tell is told by the same bytes: plain lists. 'append(xs, s...)' of a text onto bytes of one's own. No program is named here. What the document's writer does: contracts. -/
import Derived.Test.YtljinghhalcnnaaDoorQDeltaReads19
import Derived.Test.YtljinghhalcnnaaDoorQDeltaReads13
import Derived.Test.YtljinghhalcnnaaDoorQDeltaReads10
import Derived.Test.YtljinghhalcnnaaDoorQDeltaReads2
import Derived.Lib.AppendStr
import Derived.Test.YtljinghhalcnnaaDoorQDeltaReads16
namespace Go.Proofs.YtljinghhalcnnaaDoor
open Go.RowKit

theorem bytesR_len2 (most : Int) (l : List UInt8) (e : Int) : (bytesR most l e).2.2.length ≤ l.length := by
  unfold bytesR
  have := bnd_le10 most.toNat 2 12 l
  repeat' split
  · simp
  · simp
  · simp
  · simp only [List.length_take]; omega
theorem infoOpR4 : (Tryd.prog.info? 63).map (·.size) = some 4 := by kernel_rfl
set_option maxRecDepth 100000 in
set_option maxHeartbeats 16000000 in
theorem rdec10_any (A0 : Option Addr) (b : List UInt8) (c0 : Nat) (w : World) (hl : b.length ≤ 140737488351232) (hc : b.length ≤ c0) (hr : RdB w A0 b) (hA : ∀ a, A0 = some a → 0 < b.length → a.block < w.heap.size) :
    Calls Tryd.prog 8 #[.slice A0 b.length c0] w (RDecP b w) := by
  have H0 := Lib.hid (And.intro (And.intro hl hc) (And.intro hr hA))
  clear hl hc hr hA
  go_enter Tryd.func8, Tryd.ntmps8
  go_wp2_with fail
  refine (refreadcount_any A0 b c0 0 w H0.out.1.1 H0.out.1.2 H0.out.2.1 64 (by decide)).mono ?_
  rintro r w2 ⟨A2, c2, l2, hl2, rfl, hr2, hc2, hk2, hb2⟩
  obtain ⟨n, hn⟩ : ∃ n, n = (countR 64 b 0).2.2 := ⟨_, rfl⟩
  obtain ⟨e2, he2⟩ : ∃ e2, e2 = (countR 64 b 0).2.1 := ⟨_, rfl⟩
  have hn64 : n ≤ 64 := by rw [hn]; exact countR64_le _ _
  rw [show (countR ((64 : Nat) : Int) b 0) = countR 64 b 0 from rfl] at hl2 ⊢
  rw [← hn, ← he2]
  obtain ⟨g, hg⟩ : ∃ g, g = w2.heap.size := ⟨_, rfl⟩
  obtain ⟨w3, hw3⟩ : ∃ w3, w3 = w2.alloc (.cells #[.slice A2 l2.length c2, .int .i64 e2] 60) := ⟨_, rfl⟩
  have hk23 : Keeps [] w2 w3 := by rw [hw3]; exact (Keeps.refl [] w2).alloc _
  have D3 := Lib.hid (show RqI w w3 g A2 c2 l2 e2 none 0 [] ∧ l2 = (countR 64 b 0).1 ∧ e2 = (countR 64 b 0).2.1 ∧ n = (countR 64 b 0).2.2 from
    ⟨⟨by rw [hw3, hg]; exact heap_alloc_new _ _, hr2.keeps0 hk23, ⟨hc2, by rw [hl2.out]; exact Nat.le_trans (countR_len _ _ _) H0.out.1.1⟩, fun a ha hp => by
      obtain ⟨b', e1, e2'⟩ := mem_blk.1 (hb2 a ha)
      rw [← e2']
      exact H0.out.2.2 b' e1 (by have := countR_len 64 b 0; rw [hl2.out] at hp; omega), ⟨World.ownsRow_nil _ _ _ _, by simp, by simp, hk2.trans hk23 (by simp)⟩, by rw [hg]; exact hk2.size, by simp [blk]⟩, hl2.out, he2, hn⟩)
  have HW := Lib.hid (And.intro hw3 hg)
  clear hl2 hr2 hc2 hk2 hb2 hn he2 hw3 hg hk23
  go_upto_region 2 with fail
  rw [← HW.out.1, ← HW.out.2]
  go_wp2_with fail
  go_loopw [6, 7] (fun s6 s7 wr => ∃ (i : Nat) (A : Option Addr) (c : Nat) (ts : List Pt) (A3 : Option Addr) (c3 : Nat) (l : List UInt8) (e : Int), s7 = .int .i64 i ∧ s6 = .slice A ts.length c ∧ i ≤ n ∧ Hid (RqI w wr g A3 c3 l e A c ts ∧ partsR i l2 e2 = (l, e, ts.map Pt.p))) (fun _ s7 _ => n - (intOf s7).toNat)
  case atStart => exact ⟨0, none, 0, [], A2, c2, l2, e2, rfl, rfl, Nat.zero_le _, ⟨D3.out.1, rfl⟩⟩
  case round =>
    obtain ⟨i, A, c, ts, A3, c3, l, e, rfl, rfl, hin, D⟩ := hrel
    have HTL := Lib.hid (show ts.length = i from by have h1 := partsR_len l2 e2 i; rw [D.out.2] at h1; simpa using h1)
    by_cases hlt : i < n
    · have hlti : (i : Int) < (n : Int) := by omega
      have HLT := Lib.hid hlt
      rw [HTL.out]
      have hi64 : i < 64 := by omega
      obtain ⟨gx, hgx⟩ : ∃ gx, gx = wr.heap.size := ⟨_, rfl⟩
      obtain ⟨w4, hw4⟩ : ∃ w4, w4 = wr.alloc (.cells #[.bool false, .int .i64 0, .int .i64 0, .slice none 0 0] 63) := ⟨_, rfl⟩
      have X4 := Lib.hid (show RqT w w4 g gx A3 c3 l e A c ts [.bool false, .int .i64 0, .int .i64 0, .slice none 0 0] from by
        have hka : Keeps [] wr w4 := by rw [hw4]; exact (Keeps.refl [] wr).alloc _
        refine ⟨D.out.1.keeps0 hka, by rw [hw4, hgx]; exact heap_alloc_new _ _, by rw [hgx]; exact D.out.1.op.kp.size, fun hm => ?_, by have := lt_of_block D.out.1.row; omega⟩
        obtain ⟨x, e1, e2⟩ := mem_blk.1 hm
        have := ownsRow_lt D.out.1.op.own x e1
        omega)
      have HW2 := Lib.hid (And.intro hw4 hgx)
      have HPR := Lib.hid D.out.2
      clear hlt hin hw4 hgx D
      go_upto_region 7 with fail
      rw [← HW2.out.1, ← HW2.out.2]
      obtain ⟨q0, q1, _, _, _⟩ := X4.out.c0
      go_wp2_with fail
      refine (refreadbool_any A3 l c3 e w4 X4.out.d.cap.2 X4.out.d.cap.1 X4.out.d.rd).mono ?_
      rintro r w5 ⟨A5, c5, l5, hl5, rfl, hr5, hc5, hk5, hb5⟩
      obtain ⟨cp, hcp⟩ : ∃ cp, cp = (boolR l e).2.2 := ⟨_, rfl⟩
      obtain ⟨e5, he5⟩ : ∃ e5, e5 = (boolR l e).2.1 := ⟨_, rfl⟩
      rw [← hcp, ← he5]
      obtain ⟨y0, y1, y2, y3, y4⟩ := (X4.out.keeps0 hk5).c0
      have p0 := y3 0
      simp only [List.getElem?_cons_zero] at p0
      obtain ⟨w6, hw6⟩ : ∃ w6, w6 = (w5.setCell ⟨g, 0, none⟩ (.slice A5 l5.length c5)).setCell ⟨g, 1, none⟩ (.int .i64 e5) := ⟨_, rfl⟩
      obtain ⟨w7, hw7⟩ : ∃ w7, w7 = w6.setCell ⟨gx, 0, none⟩ (.bool cp) := ⟨_, rfl⟩
      have X7 := Lib.hid (show RqT w w7 g gx A5 c5 l5 e5 A c ts [.bool cp, .int .i64 0, .int .i64 0, .slice none 0 0] ∧ l5 = (boolR l e).1 ∧ e5 = (boolR l e).2.1 from ⟨(X4.out.read hr5 hc5 hk5 hb5 (by rw [hl5.out]; exact boolR_len _ _) hw6).put hw7, hl5.out, he5⟩)
      have hgg : gx ≠ g := X4.out.gx0.2.2
      clear q0 q1 y3 hl5 hr5 hc5 hk5 hb5 he5
      have HW3 := Lib.hid (And.intro hw6 hw7)
      have HCP := Lib.hid hcp
      clear hw6 hw7 hcp
      go_upto_region 8 with fail
      rw [← HW3.out.1, ← HW3.out.2]
      clear y0 y1 y2 y4 p0 hgg
      cases hcq : cp
      case' true =>
        rw [hcq] at X7 HCP
        clear hcq
        obtain ⟨q0, q1, _, q3, _⟩ := X7.out.1.c0
        have p0 := q3 0
        simp only [List.getElem?_cons_zero] at p0
        clear q3
        go_wp2_with fail
        refine (refreaduint_any A5 l5 c5 e5 w7 X7.out.1.d.cap.2 X7.out.1.d.cap.1 X7.out.1.d.rd 64).mono ?_
        rintro r w8 ⟨A8, c8, l8, hl8, rfl, hr8, hc8, hk8, hb8⟩
        obtain ⟨x, hx⟩ : ∃ x, x = (uintR 64 l5 e5).2.2 := ⟨_, rfl⟩
        obtain ⟨e8, he8⟩ : ∃ e8, e8 = (uintR 64 l5 e5).2.1 := ⟨_, rfl⟩
        have hx64 : x ≤ 64 := by rw [hx]; exact uintR64_le _ _
        rw [← hx, ← he8]
        obtain ⟨y0, y1, y2, _, _⟩ := (X7.out.1.keeps0 hk8).c0
        obtain ⟨w9, hw9⟩ : ∃ z, z = (w8.setCell ⟨g, 0, none⟩ (.slice A8 l8.length c8)).setCell ⟨g, 1, none⟩ (.int .i64 e8) := ⟨_, rfl⟩
        have X9 := Lib.hid (show RqT w w9 g gx A8 c8 l8 e8 A c ts [.bool true, .int .i64 0, .int .i64 0, .slice none 0 0] ∧ l8 = (uintR 64 l5 e5).1 ∧ e8 = (uintR 64 l5 e5).2.1 ∧ x = (uintR 64 l5 e5).2.2 from ⟨X7.out.1.read hr8 hc8 hk8 hb8 (by rw [hl8.out]; exact uintR_len _ _ _) hw9, hl8.out, he8, hx⟩)
        have HW9 := Lib.hid hw9
        clear q0 q1 p0 hl8 hr8 hc8 hk8 hb8 hx he8 hw9
        go_upto_region 11 with fail
        rw [← HW9.out]
        clear y0 y1 y2
        obtain ⟨q0, q1, _, _, _⟩ := X9.out.1.c0
        go_wp2_with fail
        refine (refreaduint_any A8 l8 c8 e8 w9 X9.out.1.d.cap.2 X9.out.1.d.cap.1 X9.out.1.d.rd 64).mono ?_
        rintro r wa ⟨Aa, ca, la, hla, rfl, hra, hca, hka, hba⟩
        obtain ⟨y, hy⟩ : ∃ y, y = (uintR 64 l8 e8).2.2 := ⟨_, rfl⟩
        obtain ⟨ea, hea⟩ : ∃ ea, ea = (uintR 64 l8 e8).2.1 := ⟨_, rfl⟩
        have hy64 : y ≤ 64 := by rw [hy]; exact uintR64_le _ _
        rw [← hy, ← hea]
        obtain ⟨y0, y1, y2, _, _⟩ := (X9.out.1.keeps0 hka).c0
        obtain ⟨wb, hwb⟩ : ∃ z, z = (wa.setCell ⟨g, 0, none⟩ (.slice Aa la.length ca)).setCell ⟨g, 1, none⟩ (.int .i64 ea) := ⟨_, rfl⟩
        have Xb := Lib.hid (show RqT w wb g gx Aa ca la ea A c ts [.bool true, .int .i64 0, .int .i64 0, .slice none 0 0] ∧ la = (uintR 64 l8 e8).1 ∧ ea = (uintR 64 l8 e8).2.1 ∧ y = (uintR 64 l8 e8).2.2 from ⟨X9.out.1.read hra hca hka hba (by rw [hla.out]; exact uintR_len _ _ _) hwb, hla.out, hea, hy⟩)
        have HWb := Lib.hid hwb
        clear q0 q1 hla hra hca hka hba hy hea hwb
        go_upto_region 12 with fail
        rw [← HWb.out]
        clear y0 y1 y2
        have f1 : IntKind.i64.wrap (x : Int) = (x : Int) := by rw [IntKind.wrap_i64]; omega
        have f2 : IntKind.i64.wrap (y : Int) = (y : Int) := by rw [IntKind.wrap_i64]; omega
        obtain ⟨_, _, _, q3, q4⟩ := Xb.out.1.c0
        have p1 := q3 1
        have p2 := q3 2
        simp only [List.getElem?_cons_succ, List.getElem?_cons_zero] at p1 p2
        obtain ⟨wc, hwc⟩ : ∃ z, z = wb.setCell ⟨gx, 1, none⟩ (.int .i64 x) := ⟨_, rfl⟩
        obtain ⟨w10, hw10⟩ : ∃ z, z = wc.setCell ⟨gx, 2, none⟩ (.int .i64 y) := ⟨_, rfl⟩
        have HO : ∃ (A7 : Option Addr) (c7 : Nat) (l7 : List UInt8) (e7 : Int) (t : Pt), RqT w w10 g gx A7 c7 l7 e7 A c ts t.cells ∧ RdB w10 t.A t.p.b ∧ (∀ a, t.A = some a → 0 < t.p.b.length → a.block < w.heap.size) ∧ partsR (i + 1) l2 e2 = (l7, e7, (ts ++ [t]).map Pt.p) := by
          refine ⟨Aa, ca, la, ea, ⟨⟨true, x, y, []⟩, none, 0⟩, (Xb.out.1.put hwc).put hw10, RdB.nil _ _, by simp, ?_⟩
          rw [partsR_succ i l2 e2 HPR.out, partR_copy l e HCP.out.symm, List.map_append]
          rw [← X7.out.2.1, ← X7.out.2.2, ← X9.out.2.1, ← X9.out.2.2.1, ← Xb.out.2.1, ← Xb.out.2.2.1, ← X9.out.2.2.2, ← Xb.out.2.2.2]
          rfl
        have HWc := Lib.hid (And.intro hwc hw10)
        clear hwc hw10 q3
        go_upto_region 14 with fail
        rw [← HWc.out.1, ← HWc.out.2]
        clear p1 p2 q4 f1 f2 X9 Xb HWb HW9 HWc
        obtain ⟨A7, c7, l7, e7, t, O⟩ := HO
        have O := Lib.hid O
      rotate_left
      case' false =>
        rw [hcq] at X7 HCP
        clear hcq
        obtain ⟨q0, q1, _, q3, _⟩ := X7.out.1.c0
        have p0 := q3 0
        simp only [List.getElem?_cons_zero] at p0
        clear q3
        go_wp2_with fail
        refine (refreadbytes_any A5 l5 c5 e5 w7 X7.out.1.d.cap.2 X7.out.1.d.cap.1 X7.out.1.d.rd 64 (by omega) (by omega)).mono ?_
        rintro r w8 ⟨A8, c8, l8, At, ct, tb, hl8, htb, rfl, hr8, hc8, hrt, hct, hk8, hb8, hbt⟩
        obtain ⟨e8, he8⟩ : ∃ e8, e8 = (bytesR 64 l5 e5).2.1 := ⟨_, rfl⟩
        rw [← he8]
        obtain ⟨y0, y1, y2, y3, y4⟩ := (X7.out.1.keeps0 hk8).c0
        have p3 := y3 3
        simp only [List.getElem?_cons_succ, List.getElem?_cons_zero] at p3
        obtain ⟨w9, hw9⟩ : ∃ z, z = (w8.setCell ⟨g, 0, none⟩ (.slice A8 l8.length c8)).setCell ⟨g, 1, none⟩ (.int .i64 e8) := ⟨_, rfl⟩
        obtain ⟨w10, hw10⟩ : ∃ z, z = w9.setCell ⟨gx, 3, none⟩ (.slice At tb.length ct) := ⟨_, rfl⟩
        have hold : ∀ a, At = some a → 0 < tb.length → a.block < w.heap.size := fun a ha hp => by
          obtain ⟨b', e1, e2'⟩ := mem_blk.1 (hbt a ha)
          rw [← e2']
          refine X7.out.1.d.a3 b' e1 ?_
          have h5 := bytesR_len2 64 l5 e5
          rw [← htb.out] at h5
          omega
        have hgx0 := X7.out.1.gx0
        have hg0 := X7.out.1.d.g0
        have X10 := Lib.hid (show RqT w w10 g gx A8 c8 l8 e8 A c ts [.bool false, .int .i64 0, .int .i64 0, .slice At tb.length ct] ∧ l8 = (bytesR 64 l5 e5).1 ∧ e8 = (bytesR 64 l5 e5).2.1 ∧ tb = (bytesR 64 l5 e5).2.2 ∧ RdB w10 At tb from
          ⟨(X7.out.1.read hr8 hc8 hk8 hb8 (by rw [hl8.out]; exact bytesR_len1 _ _ _) hw9).put hw10, hl8.out, he8, htb.out, by
            have k1 : Keeps [g, gx] w8 w9 := by rw [hw9]; exact ((Keeps.refl [g, gx] w8).setCell (p := ⟨g, 0, none⟩) (.inl (by simp)) _).setCell (p := ⟨g, 1, none⟩) (.inl (by simp)) _
            have k2 : Keeps [g, gx] w8 w10 := by rw [hw10]; exact k1.setCell (p := ⟨gx, 3, none⟩) (.inl (by simp)) _
            exact hrt.keeps k2 (fun a ha hp => by
              have h6 := hold a ha hp
              simp only [List.mem_cons, List.not_mem_nil, or_false]
              omega)⟩)
        have HO : ∃ (A7 : Option Addr) (c7 : Nat) (l7 : List UInt8) (e7 : Int) (t : Pt), RqT w w10 g gx A7 c7 l7 e7 A c ts t.cells ∧ RdB w10 t.A t.p.b ∧ (∀ a, t.A = some a → 0 < t.p.b.length → a.block < w.heap.size) ∧ partsR (i + 1) l2 e2 = (l7, e7, (ts ++ [t]).map Pt.p) := by
          refine ⟨A8, c8, l8, e8, ⟨⟨false, 0, 0, tb⟩, At, ct⟩, X10.out.1, X10.out.2.2.2.2, hold, ?_⟩
          rw [partsR_succ i l2 e2 HPR.out, partR_told l e HCP.out.symm, List.map_append]
          rw [← X7.out.2.1, ← X7.out.2.2, ← X10.out.2.1, ← X10.out.2.2.1, ← X10.out.2.2.2.1]
          rfl
        have HWc := Lib.hid (And.intro hw9 hw10)
        have hgg : gx ≠ g := hgx0.2.2
        clear q0 q1 p0 y3 hl8 htb hr8 hc8 hrt hct hk8 hb8 hbt he8 hw9 hw10 hold hgx0 hg0
        go_upto_region 14 with fail
        rw [← HWc.out.1, ← HWc.out.2]
        clear y0 y1 y2 y4 p3 X10 HWc hgg
        obtain ⟨A7, c7, l7, e7, t, O⟩ := HO
        have O := Lib.hid O
      all_goals
        clear X4 X7 HW2 HW3 HCP
        have hown := O.out.1.d.op.own
        rw [HTL.out] at hown
        have HOWN := Lib.hid hown
        clear hown
        go_wp2_with (first
          | (refine wpList_load_row rfl 63 (.tmp 8) rfl gx rfl 63 #[.bool t.p.cp, .int .i64 t.p.fr, .int .i64 t.p.ln, .slice t.A t.p.b.length t.c] (0, 0) _ O.out.1.row Tryd.underlying63 rfl infoOpR4 ?_)
          | (at_builtin; refine wpList_appendV rfl (.tmp 53) (.tmp 55) 24 63 rfl Tryd.underlying24 _ 4 48 infoOpR rfl (by decide) A c i (encPt ts) rfl (ownsRow_keeps HOWN.out ((Keeps.refl [] w10).alloc _) (by simp)) (some ⟨w10.heap.size, 0, none⟩) 1 1 t.cells rfl (Rd.lit4 (heap_alloc_new _ _)) (Pt.one _) (by unfold maxLen; omega) (by omega) ?_; intro A8 c8 w8 ho hk hf; have D8 := Lib.hid (O.out.1.add O.out.2.1 O.out.2.2.1 ((Keeps.refl [] w10).alloc _) HTL.out.symm ho hk hf); clear ho hk hf))
        go_roundw
        case rel => exact ⟨i + 1, A8, c8, ts ++ [t], A7, c7, l7, e7, by go_num, by rw [List.length_append, HTL.out]; rfl, HLT.out, ⟨D8.out, O.out.2.2.2⟩⟩
        case measure => have := HLT.out; simp [intOf]; omega
    · have hlti : ¬ (i : Int) < (n : Int) := by omega
      have HDEC := Lib.hid (show (doneR l e = 0 → decE10 b = .ok (ts.map Pt.p)) ∧ (doneR l e ≠ 0 → decE10 b = .error 3) from by
        have hi : i = n := by omega
        unfold decE10
        rw [← D3.out.2.1, ← D3.out.2.2.1, ← D3.out.2.2.2, ← hi, D.out.2]
        simp only
        exact ⟨fun h => if_pos h, fun h => if_neg h⟩)
      have HTN := Lib.hid (show ts.length ≤ 64 from by rw [HTL.out]; omega)
      rw [HTL.out]
      have q0 : wr.cell? ⟨g, 0, none⟩ = some (.slice A3 l.length c3) := by rw [cell_of_row _ _ _ _ _ _ D.out.1.row]; rfl
      have q1 : wr.cell? ⟨g, 1, none⟩ = some (.int .i64 e) := by rw [cell_of_row _ _ _ _ _ _ D.out.1.row]; rfl
      clear hlt hin
      go_wp2_with fail
      refine (refdone_any A3 l c3 e wr).mono ?_
      rintro r w5 ⟨rfl, hk5⟩
      have D5 := Lib.hid (D.out.1.op.keeps0 hk5)
      clear hk5 q0 q1
      by_cases he : doneR l e = 0
      · rw [he]
        have HE := Lib.hid (HDEC.out.1 he)
        clear he
        go_wp2_with fail
        go_ret2
        exact ⟨D5.out.kp, .inl ⟨ts, A, c, HE.out, HTN.out, D5.out, by rw [HTL.out]; rfl⟩⟩
      · have HE := Lib.hid (HDEC.out.2 he)
        obtain ⟨d, hd⟩ : ∃ d, d = doneR l e := ⟨_, rfl⟩
        rw [← hd] at he ⊢
        have heb : (d != 0) = true := by simpa using he
        clear hd
        go_wp2_with fail
        go_ret2
        exact ⟨D5.out.kp, .inr ⟨HE.out, rfl⟩⟩
end Go.Proofs.YtljinghhalcnnaaDoor
namespace Go.Proofs.YtljinghhalcnnaaDoor
open Go.RowKit

theorem acc_inj (k : Nat) : ∀ (a b : Nat) (l m : List UInt8), l.length = k → m.length = k → acc a l = acc b m → a = b ∧ l = m := by
  induction k with
  | zero =>
    intro a b l m hl hm h
    obtain rfl := List.eq_nil_of_length_eq_zero hl
    obtain rfl := List.eq_nil_of_length_eq_zero hm
    exact ⟨h, rfl⟩
  | succ k ih =>
    intro a b l m hl hm h
    have hl0 : l ≠ [] := by rintro rfl; simp at hl
    have hm0 : m ≠ [] := by rintro rfl; simp at hm
    obtain ⟨l', c, rfl⟩ : ∃ l' c, l = l' ++ [c] := ⟨l.dropLast, l.getLast hl0, (List.dropLast_concat_getLast hl0).symm⟩
    obtain ⟨m', d, rfl⟩ : ∃ m' d, m = m' ++ [d] := ⟨m.dropLast, m.getLast hm0, (List.dropLast_concat_getLast hm0).symm⟩
    rw [acc_snoc, acc_snoc] at h
    have h1 := c.toNat_lt
    have h2 := d.toNat_lt
    rw [List.length_append, List.length_singleton] at hl hm
    have h3 := ih a b l' m' (by omega) (by omega) (by omega)
    have h4 : c = d := by
      rw [h3.1, h3.2] at h
      exact UInt8.toNat_inj.1 (by omega)
    exact ⟨h3.1, by rw [h3.2, h4]⟩
theorem numB_inv {l : List UInt8} {n k : Nat} (h : numB l = (n, k, 0)) : l = uintB n ++ l.drop k := by
  cases l with
  | nil => simp [numB] at h
  | cons b t =>
    rw [numB_cons] at h
    split at h
    · cases h
    · rename_i h1
      split at h
      · rename_i h2
        injection h with h3 h4
        injection h4 with h5 h6
        subst h5
        rw [h3] at h2
        have hk : lead b ≤ t.length := by omega
        have hlt : (t.take (lead b)).length = lead b := by rw [List.length_take]; omega
        have hi := acc_inj (lead b) (tail b) (n / 2 ^ (8 * bh n)) (t.take (lead b)) (be (bh n) n) hlt (by simp [h2]) (by rw [h3, acc_be])
        unfold uintB
        rw [← hi.1, ← hi.2, h2, List.drop_succ_cons, List.cons_append, List.take_append_drop]
        congr 1
        have hh := lead_head b
        refine UInt8.toNat_inj.1 ?_
        unfold tail
        rw [UInt8.toNat_ofNat']
        have := b.toNat_lt
        omega
      · cases h
end Go.Proofs.YtljinghhalcnnaaDoor
namespace Go.Proofs.YtljinghhalcnnaaDoor
open Go.RowKit

theorem bnd_inv {most : Nat} {above left : Int} {l : List UInt8} (ha : above ≠ 0) (h : (bnd most above left l).2.1 = 0) : l = uintB (bnd most above left l).2.2 ++ (bnd most above left l).1 := by
  obtain ⟨⟨n, k, er⟩, hnb⟩ : ∃ r, r = numB l := ⟨_, rfl⟩
  unfold bnd at h ⊢
  rw [← hnb] at h ⊢
  split at h
  · rename_i h1; exact absurd h h1
  · rename_i h1
    rw [if_neg h1]
    split at h
    · exact absurd h ha
    · rename_i h2
      rw [if_neg h2]
      split at h
      · rename_i h3; exact absurd h h3.2
      · rename_i h3
        rw [if_neg h3]
        have he : er = 0 := by simpa using h1
        rw [he] at hnb
        exact numB_inv hnb.symm
theorem uintR_inv {most : Nat} {l : List UInt8} {e : Int} (h : (uintR most l e).2.1 = 0) : e = 0 ∧ l = uintB (uintR most l e).2.2 ++ (uintR most l e).1 := by
  unfold uintR at h ⊢
  split at h
  · rename_i h1; exact absurd h h1
  · rename_i h1
    rw [if_neg h1]
    exact ⟨by simpa using h1, bnd_inv (by decide) h⟩
theorem bytesR_inv {most : Int} {l : List UInt8} {e : Int} (h : (bytesR most l e).2.1 = 0) : e = 0 ∧ l = lenB (bytesR most l e).2.2 ++ (bytesR most l e).1 := by
  unfold bytesR at h ⊢
  split at h
  · rename_i h1; exact absurd h h1
  · rename_i h1
    rw [if_neg h1]
    split at h
    · exact absurd h (show ¬ (1 : Int) = 0 by decide)
    · rename_i h2
      rw [if_neg h2]
      split at h
      · rename_i h3; exact absurd h h3
      · rename_i h3
        rw [if_neg h3]
        have h4 : (bnd most.toNat 2 12 l).2.1 = 0 := by simpa using h3
        have h5 := bnd_inv (by decide) h4
        have h6 := (bnd_good (by decide) (by decide) h4).1
        refine ⟨by simpa using h1, ?_⟩
        unfold lenB
        rw [List.length_take, Nat.min_eq_left h6, List.append_assoc, List.take_append_drop]
        exact h5
/-- A filter's bytes, read and told again. -/
theorem uN_nat (x : Nat) (h : x ≤ 64) : uN (x : Int) = x := by
  have h1 := (uN_is (x : Int)).1
  rw [IntKind.wrap_u64] at h1
  omega
theorem boolR_inv {l : List UInt8} {e : Int} (h : (boolR l e).2.1 = 0) : e = 0 ∧ l = [if (boolR l e).2.2 then 1 else 0] ++ (boolR l e).1 := by
  by_cases he : e ≠ 0
  · have E : boolR l e = (l, e, false) := by unfold boolR; rw [if_pos he]
    rw [E] at h; exact absurd h he
  · have he' : e = 0 := by omega
    subst he'
    refine ⟨rfl, ?_⟩
    cases l with
    | nil =>
      have E : boolR [] 0 = ([], 12, false) := rfl
      rw [E] at h; cases h
    | cons b t =>
      by_cases hb : 1 < b.toNat
      · have E : boolR (b :: t) 0 = (b :: t, 3, false) := by unfold boolR; rw [if_neg (by simp)]; simp only; rw [if_pos hb]
        rw [E] at h; cases h
      · have E : boolR (b :: t) 0 = (t, 0, decide (b.toNat = 1)) := by unfold boolR; rw [if_neg (by simp)]; simp only; rw [if_neg hb]
        rw [E]
        simp only [List.singleton_append, List.cons.injEq, and_true]
        by_cases h1 : b.toNat = 1
        · rw [decide_eq_true h1, if_pos rfl]
          exact UInt8.toNat_inj.1 h1
        · rw [decide_eq_false h1, if_neg (by simp)]
          exact UInt8.toNat_inj.1 (by show b.toNat = 0; omega)
theorem partR_inv {l : List UInt8} {e : Int} (h : (partR l e).2.1 = 0) : e = 0 ∧ l = encP (partR l e).2.2 ++ (partR l e).1 := by
  cases hc : (boolR l e).2.2 with
  | true =>
    rw [partR_copy l e hc] at h ⊢
    simp only at h ⊢
    obtain ⟨h1, h2⟩ := uintR_inv h
    obtain ⟨h3, h4⟩ := uintR_inv h1
    obtain ⟨h5, h6⟩ := boolR_inv h3
    refine ⟨h5, ?_⟩
    have hx := uintR64_le (boolR l e).1 (boolR l e).2.1
    have hy := uintR64_le (uintR 64 (boolR l e).1 (boolR l e).2.1).1 (uintR 64 (boolR l e).1 (boolR l e).2.1).2.1
    unfold encP
    simp only [if_true]
    rw [uN_nat _ hx, uN_nat _ hy, List.append_assoc, List.append_assoc, ← h2, ← h4]
    rw [hc] at h6
    simpa using h6
  | false =>
    rw [partR_told l e hc] at h ⊢
    simp only at h ⊢
    obtain ⟨h1, h2⟩ := bytesR_inv h
    obtain ⟨h5, h6⟩ := boolR_inv h1
    refine ⟨h5, ?_⟩
    unfold encP
    simp only [Bool.false_eq_true, if_false]
    rw [List.append_assoc, ← h2]
    rw [hc] at h6
    simpa using h6
theorem partsR_inv (l : List UInt8) (e : Int) : ∀ k, (partsR k l e).2.1 = 0 → e = 0 ∧ l = (partsR k l e).2.2.flatMap encP ++ (partsR k l e).1
  | 0, h => ⟨h, by simp [partsR]⟩
  | k + 1, h => by
    have h0 : (partR (partsR k l e).1 (partsR k l e).2.1).2.1 = 0 := h
    obtain ⟨h1, h2⟩ := partR_inv h0
    obtain ⟨h3, h4⟩ := partsR_inv l e k h1
    refine ⟨h3, ?_⟩
    show l = ((partsR k l e).2.2 ++ [_]).flatMap encP ++ (partR (partsR k l e).1 (partsR k l e).2.1).1
    rw [List.flatMap_append, List.append_assoc, List.flatMap_singleton, ← h2]
    exact h4
/-- What bytes tell is told by the same bytes. -/
theorem enc_dec10 {b : List UInt8} {ps : List Pa} (h : decE10 b = .ok ps) : encE10 ps = b := by
  unfold decE10 at h
  simp only at h
  split at h
  · rename_i hd
    injection h with h
    unfold doneR at hd
    have hd2 : (partsR (countR 64 b 0).2.2 (countR 64 b 0).1 (countR 64 b 0).2.1).2.1 = 0 ∧ (partsR (countR 64 b 0).2.2 (countR 64 b 0).1 (countR 64 b 0).2.1).1.length = 0 := by
      split at hd
      · rename_i h1; exact absurd hd h1
      · rename_i h1
        split at hd
        · rename_i h2; exact ⟨by omega, h2⟩
        · cases hd
    obtain ⟨h1, h2⟩ := partsR_inv _ _ _ hd2.1
    have h3 : b = uintB (countR 64 b 0).2.2 ++ (countR 64 b 0).1 := by
      have h4 : (countR 64 b 0).2.1 = 0 := h1
      unfold countR at h4 ⊢
      rw [if_neg (by simp)] at h4 ⊢
      exact bnd_inv (by decide) h4
    rw [List.eq_nil_of_length_eq_zero hd2.2, List.append_nil, h] at h2
    unfold encE10
    have h5 : ps.length = (countR 64 b 0).2.2 := by rw [← h, partsR_len]
    rw [h5, ← h2]
    exact h3.symm
  · cases h
end Go.Proofs.YtljinghhalcnnaaDoor
namespace Go.Proofs.YtljinghhalcnnaaDoor
open Go.RowKit

theorem strCells_strB (l : List UInt8) : Lib.strCells (strB l) = encB l := by
  simp [Lib.strCells, strB, encB]
theorem wpList_appendS {P : Program} {w : World} {ops : Array Oper} {rest : List Oper} {o : Oper} {a : Act} {Q : Exit → Act → World → Prop} (hgd : o.guard = none) (s x : Operand) (t u E : TypeId)
    (ho : o.op = .call { callee := .builtin .append, args := #[s, x], argTypes := #[t, u] }) (ht : P.underlying t = some (.slice E)) (hu : P.underlying u = some .string)
    (hinfo : (P.info? E).map (fun i => (i.zero, i.size, i.bytes)) = some (some (.int .u8 0), 1, 1))
    (A : Option Addr) (cv : Nat) (l : List UInt8) (hs : a.eval s = .slice A l.length cv) (hown : OwnB E w A cv l)
    (l2 : List UInt8) (hx : a.eval x = .string (strB l2)) (hb : l.length + l2.length ≤ 140737488355328)
    (h : ∀ A' c' w' l', Hid (l' = l ++ l2) → OwnB E w' A' c' l' → Keeps (blk A) w w' → (∀ a, A' = some a → a.block ∈ blk A ∨ w.heap.size ≤ a.block) → wpList P ops Q rest (a.put o.dst (.slice A' l'.length c')) w') :
    wpList P ops Q (o :: rest) a w := by
  refine wpList_plain hgd fun K hK => ?_
  obtain ⟨i, hi, hz0, hz1, hz2⟩ := info_parts hinfo
  obtain ⟨v', w', hr, hown', hg, hn⟩ := Lib.run_append_own_string (P := P) w 0 t u o.type E i ht hu hi hz0 hz1 hz2 (.slice A l.length cv) l.length (encB l) hown (strB l2) (by show l.length + l2.length ≤ _; unfold maxLen; omega) hb (Nat.zero_le _)
  have hsz : (strB l2).size = l2.length := rfl
  rw [strCells_strB, ← encB_append, hsz] at hown'
  have hll : l.length + l2.length = (l ++ l2).length := by simp
  rw [hll] at hown'
  have hb' : ∀ A' m c', v' = .slice A' m c' → ∀ a, A' = some a → a.block ∈ blk A ∨ w.heap.size ≤ a.block := by
    intro A' m c' hv a ha
    subst hv ha
    rcases hown.2 with ⟨h1, h0⟩ | ⟨g, cap, cur, h1, _, hh, hnc, hcm, hcs, _⟩
    · injection h1 with e1 e2 e3
      subst e1 e3
      rw [h0] at hr
      have h2 : 0 < (strB l2).size := by
        rcases Nat.eq_zero_or_pos (strB l2).size with h | h
        · exact absurd (hn.2 ⟨by rw [h0], h⟩) (by simp)
        · exact h
      have hr2 := run_append_nil_string (P := P) w t u o.type E i (.int .u8 0) ht hu hi hz0 (strB l2) h2 (by rw [hsz]; omega) (by rw [hsz, hz2]; omega)
      rw [hr] at hr2
      injection hr2 with e4 _
      injection e4 with e5 _ _
      obtain rfl := Option.some.inj e5
      exact .inr (Nat.le_refl _)
    · injection h1 with e1 e2 e3
      subst e1 e3
      by_cases hroom : l.length + (strB l2).size ≤ cv
      · have hr2 := Lib.run_append_room_string (P := P) w t u o.type E i ht hu hi hz1 g l.length cv cur hh (strB l2) hroom (by simpa [hcs] using hroom)
        rw [hr] at hr2
        injection hr2 with e4 _
        injection e4 with e5 _ _
        obtain rfl := Option.some.inj e5
        exact .inl (by simp [blk])
      · have hr2 := Lib.run_append_grow_string (P := P) w t u o.type E i (.int .u8 0) ht hu hi hz0 ⟨g, 0, none⟩ l.length cv (encB l) (by rw [hz1]; simp) (World.ownsRow.cells hown (g := g) rfl) (strB l2) (by omega) (by rw [hsz]; omega) (by rw [hz2]; exact growslice_fits (by omega) (by rw [hsz]; omega))
        rw [hr] at hr2
        injection hr2 with e4 _
        injection e4 with e5 _ _
        obtain rfl := Option.some.inj e5
        exact .inr (Nat.le_refl _)
  have hshape : ∃ A' c', v' = .slice A' (l ++ l2).length c' := by
    rcases hown'.2 with ⟨h1, h0⟩ | ⟨g, cap, cur, h1, _⟩
    · exact ⟨none, 0, by rw [h1, h0]⟩
    · exact ⟨_, cap, h1⟩
  obtain ⟨A', c', rfl⟩ := hshape
  unfold Oper.wp execOp
  simp only [ho, resolve, invoke, builtin, Sem.run_bind, Sem.run_pure, Result.andThen_ok, List.map_toArray, List.map_cons, List.map_nil, hs, hx, hr]
  refine hK _ _ (h A' c' w' (l ++ l2) rfl hown' ⟨hg.os, hg.tape, hg.output, hg.size, fun k hk hnm => hg.block k hk (fun e => hnm ?_)⟩ (hb' A' _ c' rfl))
  cases A with
  | none => simp [Value.ownBlock] at e
  | some a0 => simp only [Value.ownBlock, Option.some.injEq] at e; exact mem_blk.2 ⟨a0, rfl, e.symm⟩
end Go.Proofs.YtljinghhalcnnaaDoor
namespace Go.Proofs.YtljinghhalcnnaaDoor
open Go.RowKit

theorem own02_any (A : Option Addr) (l : List UInt8) (c : Nat) (w : World) (hl : l.length ≤ 140737488355328) (hr : RdB w A l) :
    Calls Tryd.prog 52 #[.slice A l.length c] w (NewB 5 l w) := by
  have HR := Lib.hid hr
  clear hr
  go_enter Tryd.func52, Tryd.ntmps52
  go_wp2_with (at_builtin; refine wpList_appendB rfl (.tmp 4) (.tmp 5) 25 5 rfl Tryd.underlying25 infoB none 0 [] rfl (OwnB.nil _ _) A c l rfl HR.out (by simp <;> omega) ?_; intro A' c' w' l' hl' ho hk hb)
  go_ret
  refine ⟨A', c', l', hl', rfl, ho, fun a ha => ?_, hk⟩
  rcases hb a ha with h | h
  · simp [blk] at h
  · exact h

theorem be_drop (k n j : Nat) (hj : j < k) : (be k n).drop (k - (j + 1)) = UInt8.ofNat (n / 2 ^ (8 * j) % 256) :: (be k n).drop (k - j) := by
  have h : k - (j + 1) < (be k n).length := by simp; omega
  rw [List.drop_eq_getElem_cons h, show k - (j + 1) + 1 = k - j by omega]
  congr 1
  simp only [be, List.getElem_map, List.getElem_range]
  rw [show k - 1 - (k - (j + 1)) = j by omega]

set_option maxHeartbeats 1000000 in
theorem refuintw_any (A : Option Addr) (l : List UInt8) (c : Nat) (n : Nat) (w : World) (hl : l.length + 20 ≤ 140737488355328) (hr : RdB w A l) (hn : n < 18446744073709551616) :
    Calls Tryd.prog 36 #[.slice A l.length c, .int .u64 n] w (NewB 5 (l ++ uintB n) w) := by
  have HR := Lib.hid hr
  have hk8 := bh_le n
  clear hr
  go_enter Tryd.func36, Tryd.ntmps36
  go_wp2_with fail
  refine (pkmore_any n _).mono ?_
  rintro e w' ⟨rfl, rfl⟩
  obtain ⟨k, hk⟩ : ∃ k, k = bh n := ⟨_, rfl⟩
  rw [← hk] at hk8 ⊢
  have HK := Lib.hid hk
  clear hk
  go_wp2_with fail
  go_loopw [1, 6, 7] (fun nn d i wr => ∃ j : Nat, ∃ (A' : Option Addr) (c' : Nat) (dl : List UInt8), j ≤ k ∧ i = .int .i64 j ∧ nn = .int .u64 ((n / 2 ^ (8 * j) : Nat) : Int) ∧ d = .slice A' dl.length c' ∧ Hid (dl = (be k n).drop (k - j)) ∧ Hid (OwnB 5 wr A' c' dl) ∧ Hid (∀ a, A' = some a → w.heap.size ≤ a.block) ∧ Hid (Keeps [] w wr)) (fun _ _ i _ => k - (intOf i).toNat)
  case atStart => exact ⟨0, none, 0, [], by omega, rfl, by simp, rfl, by show _ = _; simp, OwnB.nil _ _, by show ∀ a, _; simp, Keeps.refl [] w⟩
  case round =>
    obtain ⟨j, A1, c1, dl, hj, rfl, rfl, rfl, hd, hO, hN, hK⟩ := hrel
    by_cases hlt : j < k
    · obtain ⟨m, hm⟩ : ∃ m, m = n / 2 ^ (8 * j) := ⟨_, rfl⟩
      rw [← hm]
      have hmn : m ≤ n := by rw [hm]; exact Nat.div_le_self _ _
      have hm64 : (m : Int) < 18446744073709551616 := by omega
      have hdl : dl.length ≤ 9 := by rw [hd.out]; simp; omega
      obtain ⟨b, hb⟩ : ∃ b : UInt8, b = UInt8.ofNat (m % 256) := ⟨_, rfl⟩
      have hbi : ((m : Int) % 256) = (b.toNat : Int) := by rw [hb, UInt8.toNat_ofNat', Nat.mod_mod]; simp
      have HM := Lib.hid hm
      have HB := Lib.hid hb
      clear hm hb hmn
      go_wp2_with (at_builtin; first
        | (refine wpList_appendB rfl (.tmp 16) (.tmp 20) 25 5 rfl Tryd.underlying25 infoB none 0 [] rfl (OwnB.nil _ _) (some ⟨wr.heap.size, 0, none⟩) 1 [b] rfl (RdB.lit wr [b] 5 (0, 0)) (by simp) ?_; intro A2 c2 w2 l2 hl2 ho2 hk2 hb2; have HO2 := Lib.hid ho2; have HK2 := Lib.hid hk2; have HB2 := Lib.hid hb2; have hl2l : l2.length ≤ 1 := by { rw [hl2.out]; simp }; clear ho2 hk2 hb2)
        | (refine wpList_appendB rfl (.tmp 21) (.tmp 22) 25 5 rfl Tryd.underlying25 infoB A2 c2 l2 rfl HO2.out A1 c1 dl rfl ((hO.out.rd.alloc _).keeps0 HK2.out) (by omega) ?_; intro A3 c3 w3 l3 hl3 ho3 hk3 hb3; have HO3 := Lib.hid ho3; have HK3 := Lib.hid hk3; have HB3 := Lib.hid hb3; clear ho3 hk3 hb3))
      have N2 : ∀ a, A2 = some a → w.heap.size ≤ a.block := fun a ha => by
        rcases HB2.out a ha with h | h
        · simp [blk] at h
        · have := hK.out.size; simp at h; omega
      have K2 : Keeps [] w w2 := (hK.out.alloc _).trans HK2.out (by simp [blk])
      go_roundw
      case rel =>
        refine ⟨j + 1, A3, c3, l3, by omega, by go_num, ?_, rfl, ?_, HO3.out, fresh_append HB3.out N2 K2.size, K2.fresh HK3.out N2⟩
        · have e : n / 2 ^ (8 * (j + 1)) = m / 256 := by rw [HM.out, Nat.div_div_eq_div_mul, show 8 * (j + 1) = 8 * j + 8 by omega, Nat.pow_add]
          rw [e]
          simp
        · show _ = _
          rw [hl3.out, hl2.out, hd.out, be_drop k n j hlt, HB.out, HM.out]
          simp
      case measure => simp [intOf]; omega
    · have hjk : j = k := by omega
      have hji : ¬ (j : Int) < (k : Int) := by omega
      obtain ⟨m, hm⟩ : ∃ m, m = n / 2 ^ (8 * j) := ⟨_, rfl⟩
      rw [← hm]
      obtain ⟨O, hO2⟩ : ∃ O, O = 256 - 2 ^ (8 - k) := ⟨_, rfl⟩
      obtain ⟨f1, _, f3⟩ := first_nat n hn
      rw [← HK.out, ← hjk, ← hm, hjk, ← hO2] at f1 f3
      obtain ⟨f, hf⟩ : ∃ f : UInt8, f = UInt8.ofNat (O + m) := ⟨_, rfl⟩
      rw [← hf] at f1
      have HAW := Lib.hid (show IntKind.u8.wrap ((O : Int) + (m : Int)) = (f.toNat : Int) by rw [IntKind.wrap_u8, f1]; omega)
      have HMW := Lib.hid (show IntKind.u8.wrap (m : Int) = (m : Int) by rw [IntKind.wrap_u8]; omega)
      have HFE := Lib.hid (show uintB n = f :: be k n by unfold uintB; rw [← HK.out, hf, hO2, hm, hjk])
      have HO2 := Lib.hid hO2
      have hdl : dl.length ≤ 9 := by rw [hd.out]; simp; omega
      have HDL := Lib.hid (show dl = be k n by rw [hd.out, hjk]; simp)
      clear hm hO2 f1 f3 hf hlt hjk hj
      go_wp2_with fail
      refine (own02_any A l c _ (by omega) (HR.out.keeps0 hK.out)).mono ?_
      rintro e w2 ⟨A2, c2, l2, hl2, rfl, ho2, hn2, hk2⟩
      obtain rfl : l2 = l := hl2.out
      have HO := Lib.hid ho2
      have N2 := Lib.hid (show ∀ a, A2 = some a → w.heap.size ≤ a.block from fun a ha => Nat.le_trans hK.out.size (hn2 a ha))
      have HD2 := Lib.hid (hO.out.rd.keeps0 hk2)
      have N2w := Lib.hid hn2
      have L1 := Lib.hid hO.out.lt
      have K2 := Lib.hid (hK.out.trans hk2 (by simp))
      clear ho2 hn2 hk2
      go_wp2_with fail
      refine (pkones_any k _ hk8).mono ?_
      rw [← HO2.out]
      rintro e w' ⟨rfl, rfl⟩
      have haw := HAW.out
      have hmw := HMW.out
      go_wp2_with (at_builtin; first
        | (refine wpList_appendB rfl (.tmp 27) (.tmp 33) 25 5 rfl Tryd.underlying25 infoB A2 c2 l2 rfl (HO.out.alloc _) (some ⟨w2.heap.size, 0, none⟩) 1 [f] rfl (RdB.lit w2 [f] 5 (0, 0)) (by simp; omega) ?_; intro A3 c3 w3 l3 hl3 ho3 hk3 hb3; have HO3 := Lib.hid ho3; have HK3 := Lib.hid hk3; have HB3 := Lib.hid hb3; have hl3b : l3.length ≤ l2.length + 1 := by { rw [hl3.out]; simp }; clear ho3 hk3 hb3)
        | (refine wpList_appendB rfl (.tmp 34) (.tmp 35) 25 5 rfl Tryd.underlying25 infoB A3 c3 l3 rfl HO3.out A1 c1 dl rfl ((HD2.out.alloc _).keeps HK3.out (fun a ha h hm => by { obtain ⟨a2, e2, e3⟩ := mem_blk.1 hm; have q1 := N2w.out a2 e2; have q2 := L1.out a ha; omega })) (by omega) ?_; intro A4 c4 w4 l4 hl4 ho4 hk4 hb4; have HO4 := Lib.hid ho4; have HK4 := Lib.hid hk4; have HB4 := Lib.hid hb4; clear ho4 hk4 hb4))
      go_ret
      have K3 := (K2.out.alloc (.cells #[.int .u8 (f.toNat : Int)] 5)).fresh HK3.out N2.out
      have N3 := fresh_append HB3.out N2.out (Nat.le_trans K2.out.size (by simp))
      refine ⟨A4, c4, l4, ?_, rfl, HO4.out, fresh_append HB4.out N3 K3.size, K3.fresh HK4.out N3⟩
      show _ = _
      rw [hl4.out, hl3.out, HDL.out, HFE.out]
      simp

theorem refboolw_any (A : Option Addr) (l : List UInt8) (c : Nat) (b : Bool) (w : World) (hl : l.length + 20 ≤ 140737488355328) (hr : RdB w A l) :
    Calls Tryd.prog 37 #[.slice A l.length c, .bool b] w (NewB 5 (l ++ [if b then 1 else 0]) w) := by
  have HR := Lib.hid hr
  clear hr
  cases b
  · go_enter Tryd.func37, Tryd.ntmps37
    go_wp2_with fail
    refine (own02_any A l c _ (by omega) HR.out).mono ?_
    rintro e w2 ⟨A2, c2, l2, hl2, rfl, ho2, hn2, hk2⟩
    obtain rfl : l2 = l := hl2.out
    have HO := Lib.hid ho2
    have N2 := Lib.hid hn2
    have K2 := Lib.hid hk2
    clear ho2 hn2 hk2
    go_wp2_with (at_builtin; refine wpList_appendB rfl (.tmp 11) (.tmp 12) 25 5 rfl Tryd.underlying25 infoB A2 c2 l2 rfl (HO.out.alloc _) (some ⟨w2.heap.size, 0, none⟩) 1 [0] rfl (RdB.lit w2 [0] 5 (0, 0)) (by simp; omega) ?_; intro A3 c3 w3 l3 hl3 ho3 hk3 hb3; have HO3 := Lib.hid ho3; have HK3 := Lib.hid hk3; have HB3 := Lib.hid hb3; clear ho3 hk3 hb3)
    go_ret
    exact ⟨A3, c3, l3, by show _ = _; rw [hl3.out], rfl, HO3.out, fresh_append HB3.out N2.out (Nat.le_trans K2.out.size (by simp)), (K2.out.alloc _).fresh HK3.out N2.out⟩
  · go_enter Tryd.func37, Tryd.ntmps37
    go_wp2_with fail
    refine (own02_any A l c _ (by omega) HR.out).mono ?_
    rintro e w2 ⟨A2, c2, l2, hl2, rfl, ho2, hn2, hk2⟩
    obtain rfl : l2 = l := hl2.out
    have HO := Lib.hid ho2
    have N2 := Lib.hid hn2
    have K2 := Lib.hid hk2
    clear ho2 hn2 hk2
    go_wp2_with (at_builtin; refine wpList_appendB rfl (.tmp 7) (.tmp 8) 25 5 rfl Tryd.underlying25 infoB A2 c2 l2 rfl (HO.out.alloc _) (some ⟨w2.heap.size, 0, none⟩) 1 [1] rfl (RdB.lit w2 [1] 5 (0, 0)) (by simp; omega) ?_; intro A3 c3 w3 l3 hl3 ho3 hk3 hb3; have HO3 := Lib.hid ho3; have HK3 := Lib.hid hk3; have HB3 := Lib.hid hb3; clear ho3 hk3 hb3)
    go_ret
    exact ⟨A3, c3, l3, by show _ = _; rw [hl3.out], rfl, HO3.out, fresh_append HB3.out N2.out (Nat.le_trans K2.out.size (by simp)), (K2.out.alloc _).fresh HK3.out N2.out⟩
theorem refbytesw_any (A : Option Addr) (l : List UInt8) (c : Nat) (A0 : Option Addr) (x : List UInt8) (c0 : Nat) (w : World) (hl : l.length + x.length + 20 ≤ 140737488355328) (hr : RdB w A l) (hx : RdB w A0 x) :
    Calls Tryd.prog 38 #[.slice A l.length c, .slice A0 x.length c0] w (NewB 5 (l ++ (uintB x.length ++ x)) w) := by
  have HR := Lib.hid hr
  have HX := Lib.hid hx
  clear hr hx
  go_enter Tryd.func38, Tryd.ntmps38
  go_wp2_with fail
  refine (refuintw_any A l c x.length _ (by omega) HR.out (by omega)).mono ?_
  rintro e w2 ⟨A2, c2, l2, hl2, rfl, ho2, hn2, hk2⟩
  have hlen2 : l2.length ≤ l.length + 9 := by rw [hl2.out]; have := length_uintB_le x.length; simp at this ⊢; omega
  have HO := Lib.hid ho2
  have N2 := Lib.hid hn2
  have K2 := Lib.hid hk2
  clear ho2 hn2 hk2
  go_wp2_with (at_builtin; refine wpList_appendB rfl (.tmp 9) (.tmp 10) 25 5 rfl Tryd.underlying25 infoB A2 c2 l2 rfl HO.out A0 c0 x rfl (HX.out.keeps0 K2.out) (by omega) ?_; intro A3 c3 w3 l3 hl3 ho3 hk3 hb3; have HO3 := Lib.hid ho3; have HK3 := Lib.hid hk3; have HB3 := Lib.hid hb3; clear ho3 hk3 hb3)
  go_ret
  exact ⟨A3, c3, l3, by show _ = _; rw [hl3.out, hl2.out]; simp, rfl, HO3.out, fresh_append HB3.out N2.out K2.out.size, K2.out.fresh HK3.out N2.out⟩

end Go.Proofs.YtljinghhalcnnaaDoor
