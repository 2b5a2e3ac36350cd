/- The parts of bytes: the walk. The block that bytes make of a base: a contract. Numbers as bytes: their order, and that they are taken off as they were: plain numbers. A print that a reader takes off: a contract. What was laid is taken off as it was: plain numbers and lists. -/
import Derived.Test.YtljinghhalcnnaaDoorQDeltaReads12
import Derived.Test.YtljinghhalcnnaaDoorQDeltaReads10
import Derived.Deep.DeepCutAuto
import Derived.Test.YtljinghhalcnnaaDoorQDeltaReads11
import Derived.Test.YtljinghhalcnnaaDoorQDeltaReads8
import GoSem.Op.String
import Derived.Test.YtljinghhalcnnaaDoorQDeltaReads9
namespace Go.Proofs.YtljinghhalcnnaaDoor
open Go.RowKit

theorem uintR64_le (l : List UInt8) (e : Int) : (uintR 64 l e).2.2 ≤ 64 := by
  unfold uintR
  split
  · exact Nat.zero_le _
  · by_cases h : (bnd 64 4 0 l).2.1 = 0
    · exact (bnd_ok (by decide) h).1
    · rw [(bnd_bad h).2]; exact Nat.zero_le _
theorem countR64_le (l : List UInt8) (e : Int) : (countR 64 l e).2.2 ≤ 64 := by
  unfold countR
  split
  · exact Nat.zero_le _
  · by_cases h : (bnd (64 : Int).toNat 4 2 l).2.1 = 0
    · exact (bnd_ok (by decide) h).1
    · rw [(bnd_bad h).2]; exact Nat.zero_le _
theorem infoOp4 : (Tryd.prog.info? 50).map (·.size) = some 4 := by kernel_rfl
/-- A part is read. -/
structure DcT (w wr : World) (g gx : Nat) (A2 : Option Addr) (c2 : Nat) (l : List UInt8) (e : Int) (A : Option Addr) (c : Nat) (ts : List Pt) (t : Pt) : Prop where
  d : DcI w wr g A2 c2 l e A c ts
  row : wr.heap[gx]? = some (.cells t.cells.toArray 50 (0, 0))
  own : OwnB 5 wr t.A t.c t.p.b
  ap : ∀ a, t.A = some a → w.heap.size ≤ a.block ∧ a.block ∉ blk A ∧ a.block ≠ g ∧ ∀ s ∈ ts, ∀ b, s.A = some b → b.block ≠ a.block
set_option maxRecDepth 100000 in
set_option maxHeartbeats 16000000 in
theorem dec10_any (A0 : Option Addr) (b : List UInt8) (c0 : Nat) (w : World) (hl : b.length ≤ 140737488351232) (hc : b.length ≤ c0) (hr : RdB w A0 b) (hA : ∀ a, A0 = some a → 0 < b.length → a.block < w.heap.size) :
    Calls Tryd.prog 7 #[.slice A0 b.length c0] w (DecP10 b w) := by
  have H0 := Lib.hid (And.intro (And.intro hl hc) (And.intro hr hA))
  have E3 := Lib.hid (errV_other (show (3 : Int) ≠ 0 by decide))
  clear hl hc hr hA
  go_enter Tryd.func7, Tryd.ntmps7
  go_wp2_with fail
  refine (read_any A0 b c0 w H0.out.1.1 H0.out.1.2 H0.out.2.1 H0.out.2.2).mono ?_
  rintro e w1 ⟨rfl, hr1, hk1⟩
  obtain ⟨g, hg⟩ : ∃ g, g = w.heap.size := ⟨_, rfl⟩
  rw [← hg] at hr1 ⊢
  have D1 := Lib.hid (show DcI w w1 g A0 c0 b 0 none 0 [] from ⟨hr1, OpI.nil w w1 hk1, by omega, by simp [blk], by simp, H0.out.2.2⟩)
  clear hr1 hk1 hg
  go_wp2_with fail
  refine (rdcount_any g A0 c0 b 0 w1 D1.out.rd 64 (by omega) (by omega)).mono ?_
  rintro e w2 ⟨A2, c2, l2, hl2, rfl, hr2, hk2, hb2⟩
  obtain ⟨n, hn⟩ : ∃ n, n = (countR 64 b 0).2.2 := ⟨_, rfl⟩
  obtain ⟨e2, he2⟩ : ∃ e2, e2 = (countR 64 b 0).2.1 := ⟨_, rfl⟩
  have hn64 : n ≤ 64 := by rw [hn]; exact countR64_le _ _
  rw [← he2] at hr2
  have D2 := Lib.hid (show DcI w w2 g A2 c2 l2 e2 none 0 [] ∧ l2 = (countR 64 b 0).1 ∧ e2 = (countR 64 b 0).2.1 ∧ n = (countR 64 b 0).2.2 from
    ⟨D1.out.call hr2 hk2 hb2 (by rw [hl2.out]; exact countR_len _ _ _), hl2.out, he2, hn⟩)
  rw [← hn]
  clear hl2 hr2 hk2 hb2 hn he2 D1
  go_wp2_with fail
  go_loopw [5, 11] (fun s5 s11 wr => ∃ (i : Nat) (A : Option Addr) (c : Nat) (ts : List Pt) (A3 : Option Addr) (c3 : Nat) (l : List UInt8) (e : Int), s11 = .int .i64 i ∧ s5 = .slice A ts.length c ∧ i ≤ n ∧ Hid (DcI w wr g A3 c3 l e A c ts ∧ partsR i l2 e2 = (l, e, ts.map Pt.p))) (fun _ s11 _ => n - (intOf s11).toNat)
  case atStart => exact ⟨0, none, 0, [], A2, c2, l2, e2, rfl, rfl, Nat.zero_le _, ⟨D2.out.1, rfl⟩⟩
  case round =>
    obtain ⟨i, A, c, ts, A3, c3, l, e, rfl, rfl, hin, D⟩ := hrel
    have HTL := Lib.hid (show ts.length = i from by have h1 := partsR_len l2 e2 i; rw [D.out.2] at h1; simpa using h1)
    by_cases hlt : i < n
    · have hlti : (i : Int) < (n : Int) := by omega
      have HLT := Lib.hid hlt
      rw [HTL.out]
      have hi64 : i < 64 := by omega
      clear hlt hin
      go_wp2_with fail
      refine (rdbool_any g A3 c3 l e wr D.out.1.rd).mono ?_
      rintro r w3 ⟨A4, c4, l4, hl4, rfl, hr4, hk4, hb4⟩
      obtain ⟨e4, he4⟩ : ∃ e4, e4 = (boolR l e).2.1 := ⟨_, rfl⟩
      rw [← he4] at hr4
      have D4 := Lib.hid (show DcI w w3 g A4 c4 l4 e4 A c ts ∧ l4 = (boolR l e).1 ∧ e4 = (boolR l e).2.1 from ⟨D.out.1.call hr4 hk4 hb4 (by rw [hl4.out]; exact boolR_len _ _), hl4.out, he4⟩)
      clear hl4 hr4 hk4 hb4 he4
      obtain ⟨gx, hgx⟩ : ∃ gx, gx = w3.heap.size := ⟨_, rfl⟩
      cases hcp : (boolR l e).2.2
      case' true =>
        obtain ⟨w4, hw4⟩ : ∃ w4, w4 = w3.alloc (.cells #[.bool true, .int .i64 0, .int .i64 0, .slice none 0 0] 50) := ⟨_, rfl⟩
        have HX := Lib.hid (show Keeps [] w3 w4 ∧ w4.heap[gx]? = some (.cells #[.bool true, .int .i64 0, .int .i64 0, .slice none 0 0] 50 (0, 0)) from ⟨by rw [hw4]; exact (Keeps.refl [] w3).alloc _, by rw [hw4, hgx]; exact heap_alloc_new _ _⟩)
        have HW := Lib.hid (And.intro hw4 hgx)
        have HCP := Lib.hid hcp
        have HGX := Lib.hid (show gx < w4.heap.size ∧ w.heap.size ≤ gx ∧ gx ∉ blk A ∧ gx ≠ g ∧ ∀ s ∈ ts, ∀ y, s.A = some y → y.block ≠ gx from ⟨lt_of_block HX.out.2, D4.out.1.apart (by rw [hgx]; exact Nat.le_refl _)⟩)
        have D5 := Lib.hid (D4.out.1.keeps0 HX.out.1)
        clear hw4 hgx hcp
        go_upto_region 6 with fail
        rw [← HW.out.1, ← HW.out.2]
        have k0 : w4.cell? ⟨gx, 0, none⟩ = some (.bool true) := by rw [cell_of_row _ _ _ _ _ _ HX.out.2]; rfl
        go_wp2_with fail
        refine (rduint_any g A4 c4 l4 e4 w4 D5.out.rd 64).mono ?_
        rintro r w5 ⟨A5, c5, l5, hl5, rfl, hr5, hk5, hb5⟩
        obtain ⟨x, hx⟩ : ∃ x, x = (uintR 64 l4 e4).2.2 := ⟨_, rfl⟩
        obtain ⟨e5, he5⟩ : ∃ e5, e5 = (uintR 64 l4 e4).2.1 := ⟨_, rfl⟩
        rw [← he5] at hr5
        have hx64 : x ≤ 64 := by rw [hx]; exact uintR64_le _ _
        have D6 := Lib.hid (show DcI w w5 g A5 c5 l5 e5 A c ts ∧ l5 = (uintR 64 l4 e4).1 ∧ e5 = (uintR 64 l4 e4).2.1 ∧ x = (uintR 64 l4 e4).2.2 ∧ w5.heap[gx]? = some (.cells #[.bool true, .int .i64 0, .int .i64 0, .slice none 0 0] 50 (0, 0)) from
          ⟨D5.out.call hr5 hk5 hb5 (by rw [hl5.out]; exact uintR_len _ _ _), hl5.out, he5, hx, (hk5.block gx (lt_of_block HX.out.2) (by simpa using HGX.out.2.2.2.1)).trans HX.out.2⟩)
        rw [← hx]
        clear hl5 hr5 hk5 hb5 hx he5 k0
        have f1 : IntKind.i64.wrap (x : Int) = (x : Int) := by rw [IntKind.wrap_i64]; omega
        go_wp2_with fail
        refine (rduint_any g A5 c5 l5 e5 w5 D6.out.1.rd 64).mono ?_
        rintro r w6 ⟨A6, c6, l6, hl6, rfl, hr6, hk6, hb6⟩
        obtain ⟨y, hy⟩ : ∃ y, y = (uintR 64 l5 e5).2.2 := ⟨_, rfl⟩
        obtain ⟨e6, he6⟩ : ∃ e6, e6 = (uintR 64 l5 e5).2.1 := ⟨_, rfl⟩
        rw [← he6] at hr6
        have hy64 : y ≤ 64 := by rw [hy]; exact uintR64_le _ _
        have D7 := Lib.hid (show DcI w w6 g A6 c6 l6 e6 A c ts ∧ l6 = (uintR 64 l5 e5).1 ∧ e6 = (uintR 64 l5 e5).2.1 ∧ y = (uintR 64 l5 e5).2.2 ∧ w6.heap[gx]? = some (.cells #[.bool true, .int .i64 0, .int .i64 0, .slice none 0 0] 50 (0, 0)) from
          ⟨D6.out.1.call hr6 hk6 hb6 (by rw [hl6.out]; exact uintR_len _ _ _), hl6.out, he6, hy, (hk6.block gx (lt_of_block D6.out.2.2.2.2) (by simpa using HGX.out.2.2.2.1)).trans D6.out.2.2.2.2⟩)
        rw [← hy]
        clear hl6 hr6 hk6 hb6 hy he6
        have f2 : IntKind.i64.wrap (y : Int) = (y : Int) := by rw [IntKind.wrap_i64]; omega
        have k1 : w6.cell? ⟨gx, 1, none⟩ = some (.int .i64 0) := by rw [cell_of_row _ _ _ _ _ _ D7.out.2.2.2.2]; rfl
        have k2 : w6.cell? ⟨gx, 2, none⟩ = some (.int .i64 0) := by rw [cell_of_row _ _ _ _ _ _ D7.out.2.2.2.2]; rfl
        have z1 := frozen_of_row w6 gx 1 _ _ D7.out.2.2.2.2
        have z2 := frozen_of_row w6 gx 2 _ _ D7.out.2.2.2.2
        go_upto_region 9 with fail
        obtain ⟨w7, hw7⟩ : ∃ w7, w7 = (w6.setCell ⟨gx, 1, none⟩ (.int .i64 x)).setCell ⟨gx, 2, none⟩ (.int .i64 y) := ⟨_, rfl⟩
        have HO : ∃ (A7 : Option Addr) (c7 : Nat) (l7 : List UInt8) (e7 : Int) (t : Pt), DcT w w7 g gx A7 c7 l7 e7 A c ts t ∧ partsR (i + 1) l2 e2 = (l7, e7, (ts ++ [t]).map Pt.p) := by
          refine ⟨A6, c6, l6, e6, ⟨⟨true, x, y, []⟩, none, 0⟩, ⟨D7.out.1.other (x := gx) (by rw [hw7]; exact ((Keeps.refl [gx] w6).setCell (p := ⟨gx, 1, none⟩) (.inl (by simp)) _).setCell (p := ⟨gx, 2, none⟩) (.inl (by simp)) _) HGX.out.2, ?_, OwnB.nil _ _, by simp⟩, ?_⟩
          · have h1 := heap_setCell_same w6 gx 1 _ _ (.int .i64 x) D7.out.2.2.2.2
            have h2 := heap_setCell_same _ gx 2 _ _ (.int .i64 y) h1
            rw [hw7, h2]
            rfl
          · rw [partsR_succ i l2 e2 D.out.2, partR_copy l e HCP.out, List.map_append]
            rw [← D4.out.2.1, ← D4.out.2.2, ← D6.out.2.1, ← D6.out.2.2.1, ← D7.out.2.1, ← D7.out.2.2.1, ← D6.out.2.2.2.1, ← D7.out.2.2.2.1]
            rfl
        rw [← hw7]
        clear hw7 k1 k2 z1 z2 f1 f2 D7 D6 D5
        obtain ⟨A7, c7, l7, e7, t, O⟩ := HO
        have O := Lib.hid O
      rotate_left
      case' false =>
        obtain ⟨w4, hw4⟩ : ∃ w4, w4 = w3.alloc (.cells #[.bool false, .int .i64 0, .int .i64 0, .slice none 0 0] 50) := ⟨_, rfl⟩
        have HX := Lib.hid (show Keeps [] w3 w4 ∧ w4.heap[gx]? = some (.cells #[.bool false, .int .i64 0, .int .i64 0, .slice none 0 0] 50 (0, 0)) from ⟨by rw [hw4]; exact (Keeps.refl [] w3).alloc _, by rw [hw4, hgx]; exact heap_alloc_new _ _⟩)
        have HW := Lib.hid (And.intro hw4 hgx)
        have HCP := Lib.hid hcp
        have HGX := Lib.hid (show gx < w4.heap.size ∧ w.heap.size ≤ gx ∧ gx ∉ blk A ∧ gx ≠ g ∧ ∀ s ∈ ts, ∀ y, s.A = some y → y.block ≠ gx from ⟨lt_of_block HX.out.2, D4.out.1.apart (by rw [hgx]; exact Nat.le_refl _)⟩)
        have D5 := Lib.hid (D4.out.1.keeps0 HX.out.1)
        clear hw4 hgx hcp
        go_upto_region 6 with fail
        rw [← HW.out.1, ← HW.out.2]
        have k0 : w4.cell? ⟨gx, 0, none⟩ = some (.bool false) := by rw [cell_of_row _ _ _ _ _ _ HX.out.2]; rfl
        go_wp2_with fail
        refine (rdbytes_any g A4 c4 l4 e4 w4 D5.out.rd 64 (by omega) (by omega)).mono ?_
        rintro r w6 ⟨A6, c6, l6, A5, c5, bs, rfl, hl6, hbs, hr6, ho6, hn6, hk6, hb6⟩
        obtain ⟨e6, he6⟩ : ∃ e6, e6 = (bytesR 64 l4 e4).2.1 := ⟨_, rfl⟩
        rw [← he6] at hr6
        have D7 := Lib.hid (show DcI w w6 g A6 c6 l6 e6 A c ts ∧ l6 = (bytesR 64 l4 e4).1 ∧ e6 = (bytesR 64 l4 e4).2.1 ∧ bs = (bytesR 64 l4 e4).2.2 ∧ w6.heap[gx]? = some (.cells #[.bool false, .int .i64 0, .int .i64 0, .slice none 0 0] 50 (0, 0)) ∧ OwnB 5 w6 A5 c5 bs ∧ (∀ a, A5 = some a → w4.heap.size ≤ a.block) from
          ⟨D5.out.call hr6 hk6 hb6 (by rw [hl6.out]; exact bytesR_len1 _ _ _), hl6.out, he6, hbs.out, (hk6.block gx (lt_of_block HX.out.2) (by simpa using HGX.out.2.2.2.1)).trans HX.out.2, ho6, hn6⟩)
        clear hl6 hbs hr6 ho6 hn6 hk6 hb6 he6 k0
        have k3 : w6.cell? ⟨gx, 3, none⟩ = some (.slice none 0 0) := by rw [cell_of_row _ _ _ _ _ _ D7.out.2.2.2.2.1]; rfl
        have z3 := frozen_of_row w6 gx 3 _ _ D7.out.2.2.2.2.1
        go_upto_region 9 with fail
        obtain ⟨w7, hw7⟩ : ∃ w7, w7 = w6.setCell ⟨gx, 3, none⟩ (.slice A5 bs.length c5) := ⟨_, rfl⟩
        have HO : ∃ (A7 : Option Addr) (c7 : Nat) (l7 : List UInt8) (e7 : Int) (t : Pt), DcT w w7 g gx A7 c7 l7 e7 A c ts t ∧ partsR (i + 1) l2 e2 = (l7, e7, (ts ++ [t]).map Pt.p) := by
          have hkk : Keeps [gx] w6 w7 := by rw [hw7]; exact (Keeps.refl [gx] w6).setCell (p := ⟨gx, 3, none⟩) (.inl (by simp)) _
          refine ⟨A6, c6, l6, e6, ⟨⟨false, 0, 0, bs⟩, A5, c5⟩, ⟨D7.out.1.other (x := gx) hkk HGX.out.2, ?_, D7.out.2.2.2.2.2.1.keeps hkk (fun a ha => ?_), fun a ha => D5.out.apart (D7.out.2.2.2.2.2.2 a ha)⟩, ?_⟩
          · have h1 := heap_setCell_same w6 gx 3 _ _ (.slice A5 bs.length c5) D7.out.2.2.2.2.1
            rw [hw7, h1]
            rfl
          · have h1 := D7.out.2.2.2.2.2.2 a ha
            have h2 := HGX.out.1
            simp only [List.mem_singleton]
            omega
          · rw [partsR_succ i l2 e2 D.out.2, partR_told l e HCP.out, List.map_append]
            rw [← D4.out.2.1, ← D4.out.2.2, ← D7.out.2.1, ← D7.out.2.2.1, ← D7.out.2.2.2.1]
            rfl
        rw [← hw7]
        clear hw7 k3 z3 D7 D5
        obtain ⟨A7, c7, l7, e7, t, O⟩ := HO
        have O := Lib.hid O
      all_goals
        clear HX HW HGX D4 HCP
        have hown := O.out.1.d.op.own
        rw [HTL.out] at hown
        have HOWN := Lib.hid hown
        clear hown
        go_wp2_with (first
          | (refine wpList_load_row rfl 50 (.tmp 6) rfl gx rfl 50 #[.bool t.p.cp, .int .i64 t.p.fr, .int .i64 t.p.ln, .slice t.A t.p.b.length t.c] (0, 0) _ O.out.1.row Tryd.underlying50 rfl infoOp4 ?_)
          | (at_builtin; refine wpList_appendV rfl (.tmp 29) (.tmp 31) 27 50 rfl Tryd.underlying27 _ 4 48 infoOp rfl (by decide) A c i (encPt ts) rfl (ownsRow_keeps HOWN.out ((Keeps.refl [] w7).alloc _) (by simp)) (some ⟨w7.heap.size, 0, none⟩) 1 1 t.cells rfl (Rd.lit4 (heap_alloc_new _ _)) (Pt.one _) (by unfold maxLen; omega) (by omega) ?_; intro A8 c8 w8 ho hk hf; have D8 := Lib.hid (O.out.1.d.add O.out.1.own O.out.1.ap ((Keeps.refl [] w7).alloc _) HTL.out.symm ho hk hf); clear ho hk hf))
        go_roundw
        case rel => exact ⟨i + 1, A8, c8, ts ++ [t], A7, c7, l7, e7, by go_num, by rw [List.length_append, HTL.out]; rfl, HLT.out, ⟨D8.out, O.out.2⟩⟩
        case measure => have := HLT.out; simp [intOf]; omega
    · have hlti : ¬ (i : Int) < (n : Int) := by omega
      have HDEC := Lib.hid (show (doneR l e = 0 → decE10 b = .ok (ts.map Pt.p)) ∧ (doneR l e ≠ 0 → decE10 b = .error 3) from by
        have hi : i = n := by omega
        unfold decE10
        rw [← D2.out.2.1, ← D2.out.2.2.1, ← D2.out.2.2.2, ← hi, D.out.2]
        simp only
        exact ⟨fun h => if_pos h, fun h => if_neg h⟩)
      have HTN := Lib.hid (show ts.length ≤ 64 from by rw [HTL.out]; omega)
      rw [HTL.out]
      clear hlt hin
      go_wp2_with fail
      refine (rddone_any g A3 c3 l e wr D.out.1.rd).mono ?_
      rintro r w3 ⟨rfl, rfl⟩
      by_cases he : doneR l e = 0
      · rw [he, errV_zero]
        have HE := Lib.hid (HDEC.out.1 he)
        clear he
        go_wp2_with fail
        go_ret2
        exact ⟨D.out.1.op.kp, .inl ⟨ts, A, c, HE.out, HTN.out, D.out.1.op, by rw [HTL.out]; rfl⟩⟩
      · rw [errV_other he]
        have HE := Lib.hid (HDEC.out.2 he)
        go_wp2_with fail
        go_ret2
        exact ⟨D.out.1.op.kp, .inr ⟨HE.out, by rw [E3.out]; rfl⟩⟩
end Go.Proofs.YtljinghhalcnnaaDoor
namespace Go.Proofs.YtljinghhalcnnaaDoor
open Go.RowKit

def patchE (base b : List UInt8) : Except Int (List UInt8) := match decE10 b with
  | .error e => .error e
  | .ok ps => applyE base ps
/-- The block, or the error. -/
def PatP (base b : List UInt8) (w : World) (r : Ending) (w' : World) : Prop :=
  Keeps [] w w' ∧ ((∃ e, patchE base b = .error e ∧ e ≠ 0 ∧ r = .returned (.tuple #[.agg (encB z64).toArray, errV e])) ∨ (∃ l, patchE base b = .ok l ∧ l.length = 64 ∧ r = .returned (.tuple #[.agg (encB l).toArray, .nilIface])))
theorem decE10_bnd {b : List UInt8} {ps : List Pa} (h : decE10 b = .ok ps) : ∀ p ∈ ps, (0 ≤ p.fr ∧ p.fr ≤ 64) ∧ (0 ≤ p.ln ∧ p.ln ≤ 64) := by
  have hp : ∀ (l : List UInt8) (e : Int), (0 ≤ (partR l e).2.2.fr ∧ (partR l e).2.2.fr ≤ 64) ∧ (0 ≤ (partR l e).2.2.ln ∧ (partR l e).2.2.ln ≤ 64) := fun l e => by
    cases hc : (boolR l e).2.2 with
    | true =>
      rw [partR_copy l e hc]
      have h1 := uintR64_le (boolR l e).1 (boolR l e).2.1
      have h2 := uintR64_le (uintR 64 (boolR l e).1 (boolR l e).2.1).1 (uintR 64 (boolR l e).1 (boolR l e).2.1).2.1
      simp only
      omega
    | false =>
      rw [partR_told l e hc]
      simp
  have hps : ∀ (l : List UInt8) (e : Int) (k : Nat), ∀ p ∈ (partsR k l e).2.2, (0 ≤ p.fr ∧ p.fr ≤ 64) ∧ (0 ≤ p.ln ∧ p.ln ≤ 64) := fun l e k => by
    induction k with
    | zero => intro p h; cases h
    | succ k ih =>
      intro p h
      have h1 : p ∈ (partsR k l e).2.2 ++ [(partR (partsR k l e).1 (partsR k l e).2.1).2.2] := h
      rcases List.mem_append.1 h1 with h2 | h2
      · exact ih p h2
      · obtain rfl := List.mem_singleton.1 h2
        exact hp _ _
  unfold decE10 at h
  simp only at h
  split at h
  · injection h with h
    subst h
    exact hps _ _ _
  · cases h
set_option maxRecDepth 100000 in
set_option maxHeartbeats 8000000 in
theorem patch_any (base : List UInt8) (hb : base.length = 64) (A0 : Option Addr) (b : List UInt8) (c0 : Nat) (w : World) (hl : b.length ≤ 140737488351232) (hc : b.length ≤ c0) (hr : RdB w A0 b) (hA : ∀ a, A0 = some a → 0 < b.length → a.block < w.heap.size) :
    Calls Tryd.prog 12 #[.agg (encB base).toArray, .slice A0 b.length c0] w (PatP base b w) := by
  have HB := Lib.hid hb
  have HZ := Lib.hid zero64k
  obtain ⟨bs, hbs⟩ : ∃ bs, bs = (encB base).toArray := ⟨_, rfl⟩
  obtain ⟨g, hg⟩ : ∃ g, g = w.heap.size := ⟨_, rfl⟩
  obtain ⟨gr, hgr⟩ : ∃ gr, gr = w.heap.size + 1 := ⟨_, rfl⟩
  obtain ⟨W, hW⟩ : ∃ W, W = (w.alloc (.cells bs 23)).alloc (.cells (encB z64).toArray 23) := ⟨_, rfl⟩
  have HI := Lib.hid (show W.heap[g]? = some (.cells bs 23 (0, 0)) ∧ W.heap[gr]? = some (.cells (encB z64).toArray 23 (0, 0)) ∧ Keeps [] w W ∧ w.heap.size ≤ gr ∧ g ≠ gr from
    ⟨by rw [hW, hg]; exact heap_alloc2_old _ _ _, by rw [hW, hgr]; exact heap_alloc2_new _ _ _, by rw [hW]; exact ((Keeps.refl [] w).alloc _).alloc _, by omega, by omega⟩)
  have H0 := Lib.hid (show RdB W A0 b ∧ (∀ a, A0 = some a → 0 < b.length → a.block < W.heap.size) ∧ b.length ≤ 140737488351232 ∧ b.length ≤ c0 from ⟨hr.keeps0 HI.out.2.2.1, fun a ha hp => Nat.lt_of_lt_of_le (hA a ha hp) HI.out.2.2.1.size, hl, hc⟩)
  have HW := Lib.hid (show W = (w.alloc (.cells bs 23)).alloc (.cells (encB z64).toArray 23) ∧ gr = w.heap.size + 1 ∧ g = w.heap.size from ⟨hW, hgr, hg⟩)
  have HBS := Lib.hid hbs
  have HII := Lib.hid (show (Tryd.prog.info? 23).map (·.size) = some bs.size from by rw [hbs, List.size_toArray, length_encB, hb]; exact infoBlk)
  rw [← hbs]
  clear hr hb hbs hg hgr hW hl hc hA
  go_enter Tryd.func12, Tryd.ntmps12
  go_upto_region 1 with fail
  rw [HZ.out]
  rw [← HW.out.1, ← HW.out.2.1, ← HW.out.2.2]
  go_wp2_with fail
  refine (dec10_any A0 b c0 W H0.out.2.2.1 H0.out.2.2.2 H0.out.1 H0.out.2.1).mono ?_
  rintro r w2 ⟨hk2, ⟨ts, A, c, hd, hts, hop, rfl⟩ | ⟨hd, rfl⟩⟩
  · have D2 := Lib.hid (show w2.heap[g]? = some (.cells bs 23 (0, 0)) ∧ w2.heap[gr]? = some (.cells (encB z64).toArray 23 (0, 0)) ∧ Keeps [] w w2 ∧ OpI W w2 A c ts ∧ patchE base b = applyE base (ts.map Pt.p) ∧ ts.length ≤ 64 from
      ⟨(hk2.block g (lt_of_block HI.out.1) (by simp)).trans HI.out.1, (hk2.block gr (lt_of_block HI.out.2.1) (by simp)).trans HI.out.2.1, HI.out.2.2.1.trans hk2 (by simp), hop, by unfold patchE; rw [hd], hts⟩)
    have HBD := Lib.hid (decE10_bnd hd)
    clear hk2 hd hts hop
    go_wp2_with (first
      | (refine wpList_load_row rfl 23 (.tmp 2) rfl g rfl 23 bs (0, 0) _ D2.out.1 Tryd.underlying23 rfl HII.out ?_))
    have HC := apply_any base HB.out A c ts w2 (Rd.of_own D2.out.2.2.2.1.own) (fun t ht => by
      have h1 := HBD.out t.p (List.mem_map.2 ⟨t, ht, rfl⟩)
      exact ⟨(D2.out.2.2.2.1.rd t ht).1.rd, by omega, by omega⟩) (by have := D2.out.2.2.2.2.2; omega)
    rw [← HBS.out] at HC
    refine HC.mono ?_
    clear HC
    rintro r w3 ⟨hk3, ⟨e, he, hne, rfl⟩ | ⟨l, hl, hl64, rfl⟩⟩
    · have D3 := Lib.hid (show w3.heap[gr]? = some (.cells (encB z64).toArray 23 (0, 0)) ∧ Keeps [] w w3 ∧ patchE base b = .error e ∧ e ≠ 0 from ⟨(hk3.block gr (lt_of_block D2.out.2.1) (by simp)).trans D2.out.2.1, D2.out.2.2.1.trans hk3 (by simp), D2.out.2.2.2.2.1.trans he, hne⟩)
      rw [errV_other hne]
      clear hk3 he hne
      go_wp2_with (refine wpList_store_rowK rfl 23 (.tmp 4) (.tmp 20) rfl gr (encB z64) (encB z64) 23 rfl rfl D3.out.1 (by rfl) (hsz64 z64 z64_len) (encB_one _) ?_; intro w8 h8 hk8)
      have h8' : w8.heap[gr]? = _ := h8.out
      try simp only [Exit.inBlock, Exit.then]
      refine bodyPost_ret (v := .tuple #[.agg (encB z64).toArray, .iface 58 (.int .i64 e)]) (results_cell_tmp Tryd.results12 _ _ gr 23 _ (0, 0) _ _ rfl rfl h8' Tryd.underlying23 rfl (hsz64' z64 z64_len)) rfl ?_
      exact ⟨D3.out.2.1.trans hk8 (fun t ht => .inr (by simp at ht; rw [ht]; exact HI.out.2.2.2.1)), .inl ⟨e, D3.out.2.2.1, D3.out.2.2.2, by rw [errV_other D3.out.2.2.2]⟩⟩
    · have D3 := Lib.hid (show w3.heap[gr]? = some (.cells (encB z64).toArray 23 (0, 0)) ∧ Keeps [] w w3 ∧ patchE base b = .ok l ∧ l.length = 64 from ⟨(hk3.block gr (lt_of_block D2.out.2.1) (by simp)).trans D2.out.2.1, D2.out.2.2.1.trans hk3 (by simp), D2.out.2.2.2.2.1.trans hl, hl64⟩)
      clear hk3 hl hl64
      go_wp2_with (refine wpList_store_rowK rfl 23 (.tmp 4) (.tmp 20) rfl gr (encB l) (encB z64) 23 rfl rfl D3.out.1 (by rw [length_encB, length_encB, D3.out.2.2.2]; rfl) (hsz64 l D3.out.2.2.2) (encB_one _) ?_; intro w8 h8 hk8)
      have h8' : w8.heap[gr]? = _ := h8.out
      try simp only [Exit.inBlock, Exit.then]
      refine bodyPost_ret (v := .tuple #[.agg (encB l).toArray, .nilIface]) (results_cell_tmp Tryd.results12 _ _ gr 23 _ (0, 0) _ _ rfl rfl h8' Tryd.underlying23 rfl (hsz64' l D3.out.2.2.2)) rfl ?_
      exact ⟨D3.out.2.1.trans hk8 (fun t ht => .inr (by simp at ht; rw [ht]; exact HI.out.2.2.2.1)), .inr ⟨l, D3.out.2.2.1, D3.out.2.2.2, rfl⟩⟩
  · have D2 := Lib.hid (show w2.heap[gr]? = some (.cells (encB z64).toArray 23 (0, 0)) ∧ Keeps [] w w2 ∧ patchE base b = .error 3 from ⟨(hk2.block gr (lt_of_block HI.out.2.1) (by simp)).trans HI.out.2.1, HI.out.2.2.1.trans hk2 (by simp), by unfold patchE; rw [hd]⟩)
    rw [errV_other (by decide)]
    clear hk2 hd
    go_wp2_with (refine wpList_store_rowK rfl 23 (.tmp 4) (.tmp 15) rfl gr (encB z64) (encB z64) 23 rfl (by first | rfl | exact congrArg Value.agg HZ.out) D2.out.1 (by rfl) (hsz64 z64 z64_len) (encB_one _) ?_; intro w8 h8 hk8)
    have h8' : w8.heap[gr]? = _ := h8.out
    try simp only [Exit.inBlock, Exit.then]
    refine bodyPost_ret (v := .tuple #[.agg (encB z64).toArray, .iface 58 (.int .i64 3)]) (results_cell_tmp Tryd.results12 _ _ gr 23 _ (0, 0) _ _ rfl rfl h8' Tryd.underlying23 rfl (hsz64' z64 z64_len)) rfl ?_
    exact ⟨D2.out.2.1.trans hk8 (fun t ht => .inr (by simp at ht; rw [ht]; exact HI.out.2.2.2.1)), .inl ⟨3, D2.out.2.2, by decide, by rw [errV_other (by decide)]⟩⟩
end Go.Proofs.YtljinghhalcnnaaDoor
namespace Go.Proofs.YtljinghhalcnnaaDoor
open Go.RowKit

theorem bh_mono {n m : Nat} (h : n ≤ m) : bh n ≤ bh m := by
  rcases Nat.lt_or_ge (bh m) (bh n) with hlt | hge
  · exfalso
    have h8 := bh_le n
    have h1 := (bh_spec m).1 (by omega)
    have h2 := (bh_spec n).2 (by omega)
    have h3 : (2 : Nat) ^ (7 * bh m + 7) ≤ 2 ^ (7 * bh n) := Nat.pow_le_pow_right (by omega) (by omega)
    omega
  · exact hge
theorem bh_lt {n m : Nat} (h : bh n < bh m) : n < m := by
  rcases Nat.lt_or_ge n m with h1 | h1
  · exact h1
  · have := bh_mono h1
    omega

theorem first_nat (n : Nat) (hn : n < 18446744073709551616) : (UInt8.ofNat (256 - 2 ^ (8 - bh n) + n / 2 ^ (8 * bh n))).toNat = 256 - 2 ^ (8 - bh n) + n / 2 ^ (8 * bh n) ∧
    (bh n < 8 → 256 - 2 ^ (8 - bh n) + n / 2 ^ (8 * bh n) < 256 - 2 ^ (7 - bh n)) ∧ 256 - 2 ^ (8 - bh n) + n / 2 ^ (8 * bh n) < 256 := by
  have h8 := bh_le n
  have key : (bh n < 8 → 256 - 2 ^ (8 - bh n) + n / 2 ^ (8 * bh n) < 256 - 2 ^ (7 - bh n)) ∧ 256 - 2 ^ (8 - bh n) + n / 2 ^ (8 * bh n) < 256 := by
    by_cases hk : bh n < 8
    · have hx := bh_top n hk
      have h1 : (1 : Nat) ≤ 2 ^ (7 - bh n) := Nat.one_le_two_pow
      have h2 : (2 : Nat) ^ (7 - bh n) ≤ 128 := Nat.pow_le_pow_right (by omega) (show 7 - bh n ≤ 7 by omega)
      have h3 : (2 : Nat) ^ (8 - bh n) = 2 * 2 ^ (7 - bh n) := by rw [show 8 - bh n = (7 - bh n) + 1 by omega, Nat.pow_succ, Nat.mul_comm]
      omega
    · have hk' : bh n = 8 := by omega
      rw [bh_top8 n hn hk', hk']
      simp
  refine ⟨?_, key⟩
  rw [UInt8.toNat_ofNat']
  exact Nat.mod_eq_of_lt key.2

theorem lead_pin : ∀ b : Fin 256, ∀ k : Fin 9, 256 - 2 ^ (8 - k.val) ≤ b.val → (k.val < 8 → b.val < 256 - 2 ^ (7 - k.val)) → 8 - Lib.bitLen (255 - b.val) = k.val := by decide +kernel
theorem lead_uint (n : Nat) (hn : n < 18446744073709551616) : lead (UInt8.ofNat (256 - 2 ^ (8 - bh n) + n / 2 ^ (8 * bh n))) = bh n := by
  obtain ⟨h1, h2, h3⟩ := first_nat n hn
  have h8 := bh_le n
  unfold lead
  rw [h1]
  exact lead_pin ⟨_, h3⟩ ⟨bh n, by omega⟩ (Nat.le_add_right _ _) h2
theorem tail_uint (n : Nat) (hn : n < 18446744073709551616) : tail (UInt8.ofNat (256 - 2 ^ (8 - bh n) + n / 2 ^ (8 * bh n))) = n / 2 ^ (8 * bh n) := by
  obtain ⟨h1, _, _⟩ := first_nat n hn
  unfold tail
  rw [lead_uint n hn, h1]
  exact Nat.add_sub_cancel_left _ _

/-- The bytes are the number again. -/
theorem acc_be_take (k n j : Nat) (hj : j ≤ k) : acc (n / 2 ^ (8 * k)) ((be k n).take j) = n / 2 ^ (8 * (k - j)) := by
  induction j with
  | zero => simp [acc]
  | succ j ih =>
    rw [be_take k n j (by omega), acc_snoc, ih (by omega), UInt8.toNat_ofNat', Nat.mod_mod]
    have e : 8 * (k - j) = 8 * (k - (j + 1)) + 8 := by omega
    have e2 : k - 1 - j = k - (j + 1) := by omega
    rw [e, e2, Nat.pow_add, ← Nat.div_div_eq_div_mul]
    show n / 2 ^ (8 * (k - (j + 1))) / 256 * 256 + n / 2 ^ (8 * (k - (j + 1))) % 256 = _
    omega
theorem acc_be (k n : Nat) : acc (n / 2 ^ (8 * k)) (be k n) = n := by
  have := acc_be_take k n k (Nat.le_refl k)
  rw [List.take_of_length_le (by simp)] at this
  simpa using this
/-- What was laid is taken off. -/
theorem numB_uint (n : Nat) (hn : n < 18446744073709551616) (rest : List UInt8) : numB (uintB n ++ rest) = (n, bh n + 1, 0) := by
  unfold uintB
  rw [List.cons_append, numB_cons, lead_uint n hn, tail_uint n hn, if_neg (by simp), List.take_append_of_le_length (by simp), List.take_of_length_le (by simp), acc_be, if_pos rfl]

/-! ## The order -/
theorem less_acc (l1 : List UInt8) : ∀ (l2 : List UInt8), l1.length = l2.length → ∀ a b, (acc a l1 < acc b l2) ↔ (a < b ∨ (a = b ∧ Op.bytesLess l1 l2 = true)) := by
  induction l1 with
  | nil =>
    intro l2 h a b
    obtain rfl : l2 = [] := List.eq_nil_of_length_eq_zero h.symm
    simp [acc, Op.bytesLess]
  | cons c l1 ih =>
    intro l2 h a b
    rcases l2 with _ | ⟨d, l2⟩
    · simp at h
    · have h' : l1.length = l2.length := by simpa using h
      have hc := c.toNat_lt
      have hd := d.toNat_lt
      have hi := ih l2 h' (a * 256 + c.toNat) (b * 256 + d.toNat)
      have e : (acc a (c :: l1) < acc b (d :: l2)) ↔ (acc (a * 256 + c.toNat) l1 < acc (b * 256 + d.toNat) l2) := Iff.rfl
      rw [e, hi]
      have e2 : Op.bytesLess (c :: l1) (d :: l2) = true ↔ (c.toNat < d.toNat ∨ (c.toNat = d.toNat ∧ Op.bytesLess l1 l2 = true)) := by
        simp only [Op.bytesLess, Bool.or_eq_true, decide_eq_true_eq, Bool.and_eq_true, beq_iff_eq, UInt8.lt_iff_toNat_lt, ← UInt8.toNat_inj]
      rw [e2]
      generalize Op.bytesLess l1 l2 = z
      constructor
      · rintro (h | ⟨h, hz⟩)
        · rcases Nat.lt_trichotomy a b with h2 | h2 | h2
          · exact .inl h2
          · exact .inr ⟨h2, .inl (by omega)⟩
          · omega
        · exact .inr ⟨by omega, .inr ⟨by omega, hz⟩⟩
      · rintro (h | ⟨h, h2 | ⟨h2, hz⟩⟩)
        · exact .inl (by omega)
        · exact .inl (by omega)
        · exact .inr ⟨by omega, hz⟩
theorem uint_less (n m : Nat) (hn : n < 18446744073709551616) (hm : m < 18446744073709551616) : Op.bytesLess (uintB n) (uintB m) = decide (n < m) := by
  obtain ⟨n1, n2, n3⟩ := first_nat n hn
  obtain ⟨m1, m2, m3⟩ := first_nat m hm
  have hn8 := bh_le n
  have hm8 := bh_le m
  have e2 : ∀ (c d : UInt8) (l1 l2 : List UInt8), Op.bytesLess (c :: l1) (d :: l2) = true ↔ (c.toNat < d.toNat ∨ (c.toNat = d.toNat ∧ Op.bytesLess l1 l2 = true)) := fun c d l1 l2 => by
    simp only [Op.bytesLess, Bool.or_eq_true, decide_eq_true_eq, Bool.and_eq_true, beq_iff_eq, UInt8.lt_iff_toNat_lt, ← UInt8.toNat_inj]
  have pw : ∀ i j : Nat, i < j → j ≤ 8 → (2 : Nat) ^ (8 - j) ≤ 2 ^ (7 - i) := fun i j h h8 => Nat.pow_le_pow_right (by omega) (by omega)
  rw [Bool.eq_iff_iff, decide_eq_true_iff]
  unfold uintB
  rw [e2, n1, m1]
  obtain ⟨qn, hqn⟩ : ∃ q, q = n / 2 ^ (8 * bh n) := ⟨_, rfl⟩
  obtain ⟨qm, hqm⟩ : ∃ q, q = m / 2 ^ (8 * bh m) := ⟨_, rfl⟩
  rw [← hqn] at n2 n3 ⊢
  rw [← hqm] at m2 m3 ⊢
  rcases Nat.lt_trichotomy (bh n) (bh m) with h | h | h
  · have := pw _ _ h hm8
    have h1 := n2 (by omega)
    have h2 := bh_lt h
    have h3 : (2 : Nat) ^ (7 - bh n) ≤ 128 := Nat.pow_le_pow_right (by omega) (show 7 - bh n ≤ 7 by omega)
    constructor
    · intro _; exact h2
    · intro _; left; omega
  · have := less_acc (be (bh n) n) (be (bh n) m) (by simp) (n / 2 ^ (8 * bh n)) (m / 2 ^ (8 * bh n))
    rw [acc_be, acc_be] at this
    rw [← h] at hqm ⊢
    rw [← hqn, ← hqm] at this
    rw [this]
    generalize Op.bytesLess (be (bh n) n) (be (bh n) m) = z
    constructor
    · rintro (h | ⟨h, hz⟩)
      · exact .inl (by omega)
      · exact .inr ⟨by omega, hz⟩
    · rintro (h | ⟨h, hz⟩)
      · exact .inl (by omega)
      · exact .inr ⟨by omega, hz⟩
  · have := pw _ _ h hn8
    have h1 := m2 (by omega)
    have h2 := bh_lt h
    have h3 : (2 : Nat) ^ (7 - bh m) ≤ 128 := Nat.pow_le_pow_right (by omega) (show 7 - bh m ≤ 7 by omega)
    constructor
    · rintro (h | ⟨h, _⟩) <;> omega
    · intro _; omega
end Go.Proofs.YtljinghhalcnnaaDoor
namespace Go.Proofs.YtljinghhalcnnaaDoor
open Go.RowKit

/-- A print. -/
def printR (l : List UInt8) (e : Int) : List UInt8 × Int × List UInt8 := ((offR 32 l e).1, (offR 32 l e).2.1, (offR 32 l e).2.2 ++ List.replicate (32 - (offR 32 l e).2.2.length) 0)
theorem offR_len (n : Nat) (l : List UInt8) (e : Int) : (offR n l e).2.2.length ≤ n := by
  unfold offR
  split
  · exact Nat.zero_le _
  · split
    · exact Nat.zero_le _
    · simp; omega
theorem length_printR (l : List UInt8) (e : Int) : (printR l e).2.2.length = 32 := by
  have := offR_len 32 l e
  simp [printR]; omega

theorem zero32 : (#[.int .u8 0, .int .u8 0, .int .u8 0, .int .u8 0, .int .u8 0, .int .u8 0, .int .u8 0, .int .u8 0, .int .u8 0, .int .u8 0, .int .u8 0, .int .u8 0, .int .u8 0, .int .u8 0, .int .u8 0, .int .u8 0, .int .u8 0, .int .u8 0, .int .u8 0, .int .u8 0, .int .u8 0, .int .u8 0, .int .u8 0, .int .u8 0, .int .u8 0, .int .u8 0, .int .u8 0, .int .u8 0, .int .u8 0, .int .u8 0, .int .u8 0, .int .u8 0] : Array Value) = (encB (List.replicate 32 0)).toArray := by rfl

end Go.Proofs.YtljinghhalcnnaaDoor
namespace Go.Proofs.YtljinghhalcnnaaDoor
open Go.RowKit

theorem bnd_uint (n : Nat) (hn : n < 18446744073709551616) (most : Nat) (above left : Int) (rest : List UInt8) (h : n ≤ most) (hl : left ≠ 0 → n ≤ rest.length) : bnd most above left (uintB n ++ rest) = (rest, 0, n) := by
  unfold bnd
  rw [numB_uint n hn rest]
  simp only [ne_eq, not_true_eq_false, if_false]
  have hlen : (uintB n).length = bh n + 1 := by simp
  rw [if_neg (by omega), if_neg (by rintro ⟨h1, h2⟩; have := hl h2; rw [List.length_append, hlen] at h1; omega)]
  rw [← hlen, List.drop_left]
theorem uintR_uint (n : Nat) (hn : n < 18446744073709551616) (rest : List UInt8) : uintR 18446744073709551615 (uintB n ++ rest) 0 = (rest, 0, n) := by
  unfold uintR
  rw [if_neg (by simp), bnd_uint n hn _ _ _ _ (by omega) (by simp)]
theorem intR_int (n : Int) (h1 : -9223372036854775808 ≤ n) (h2 : n ≤ 9223372036854775807) (rest : List UInt8) : intR (intB n ++ rest) 0 = (rest, 0, n) := by
  by_cases hn : n < 0
  · rw [show intB n = 1 :: uintB (-(n + 1)).toNat by unfold intB; rw [if_pos hn], List.cons_append]
    unfold intR
    rw [if_neg (by simp)]
    simp only
    rw [bnd_uint _ (by omega) _ _ _ _ (by omega) (by simp)]
    simp
    omega
  · rw [show intB n = 0 :: uintB n.toNat by unfold intB; rw [if_neg hn], List.cons_append]
    unfold intR
    rw [if_neg (by simp)]
    simp only
    rw [bnd_uint _ (by omega) _ _ _ _ (by omega) (by simp)]
    simp
    omega
theorem boolR_bool (b : Bool) (rest : List UInt8) : boolR ([if b then 1 else 0] ++ rest) 0 = (rest, 0, b) := by
  cases b <;> simp [boolR]
theorem bytesR_bytes (l rest : List UInt8) (hl : l.length < 9223372036854775808) : bytesR (l.length : Int) (lenB l ++ rest) 0 = (rest, 0, l) := by
  unfold bytesR lenB
  rw [if_neg (by simp), if_neg (by omega), List.append_assoc, bnd_uint _ (by omega) _ _ _ _ (by simp) (by simp)]
  simp
theorem printR_print (p rest : List UInt8) (h32 : p.length = 32) : printR (p ++ rest) 0 = (rest, 0, p) := by
  have e : offR 32 (p ++ rest) 0 = (rest, 0, p) := by
    unfold offR
    rw [if_neg (by simp), if_neg (by rw [List.length_append]; omega), ← h32, List.drop_left, List.take_left]
  unfold printR
  rw [e]
  simp [h32]
theorem doneR_nil : doneR [] 0 = 0 := by decide
end Go.Proofs.YtljinghhalcnnaaDoor
