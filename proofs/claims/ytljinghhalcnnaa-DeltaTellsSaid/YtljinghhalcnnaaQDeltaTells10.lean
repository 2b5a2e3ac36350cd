/- The parts of bytes: what holds at work. The parts of bytes: the walk. What a part makes of a base: a contract. The block that parts make of a base: plain, and how it lies. -/
import Derived.Test.YtljinghhalcnnaaQDeltaTells9
import Derived.Deep.DeepCutAuto
import Derived.Test.YtljinghhalcnnaaQDeltaTells7
import Derived.Test.YtljinghhalcnnaaQDeltaTells8
namespace Go.Proofs.Ytljinghhalcnnaa
open Go.RowKit

theorem bnd_le10 (most : Nat) (above left : Int) (l : List UInt8) : (bnd most above left l).1.length ≤ l.length := by
  unfold bnd
  repeat' split
  all_goals simp
theorem boolR_len (l : List UInt8) (e : Int) : (boolR l e).1.length ≤ l.length := by
  unfold boolR
  repeat' split
  all_goals simp
theorem uintR_len (most : Nat) (l : List UInt8) (e : Int) : (uintR most l e).1.length ≤ l.length := by
  unfold uintR
  split
  · simp
  · exact bnd_le10 _ _ _ _
theorem countR_len (most : Int) (l : List UInt8) (e : Int) : (countR most l e).1.length ≤ l.length := by
  unfold countR
  split
  · simp
  · exact bnd_le10 _ _ _ _
theorem bytesR_len1 (most : Int) (l : List UInt8) (e : Int) : (bytesR most l e).1.length ≤ l.length := by
  unfold bytesR
  have := bnd_le10 most.toNat 2 12 l
  repeat' split
  · simp
  · simp
  · simp
  · simp only [List.length_drop]; omega
/-- The reader and the parts at work. -/
structure DcI (w wr : World) (g : Nat) (A2 : Option Addr) (c2 : Nat) (l : List UInt8) (e : Int) (A : Option Addr) (c : Nat) (ts : List Pt) : Prop where
  rd : Rdr wr g A2 c2 l e
  op : OpI w wr A c ts
  g0 : w.heap.size ≤ g
  ga : g ∉ blk A
  gt : ∀ t ∈ ts, ∀ a, t.A = some a → a.block ≠ g
  a2 : ∀ a, A2 = some a → 0 < l.length → a.block < w.heap.size
theorem DcI.keeps0 {w wr wr' : World} {g : Nat} {A2 : Option Addr} {c2 : Nat} {l : List UInt8} {e : Int} {A : Option Addr} {c : Nat} {ts : List Pt} (h : DcI w wr g A2 c2 l e A c ts) (hk : Keeps [] wr wr') : DcI w wr' g A2 c2 l e A c ts :=
  ⟨h.rd.keeps0 hk, h.op.keeps0 hk, h.g0, h.ga, h.gt, h.a2⟩
/-- A call of the reader. -/
theorem DcI.call {w wr wr' : World} {g : Nat} {A2 A3 : Option Addr} {c2 c3 : Nat} {l l' : List UInt8} {e e' : Int} {A : Option Addr} {c : Nat} {ts : List Pt} (h : DcI w wr g A2 c2 l e A c ts)
    (hr : Rdr wr' g A3 c3 l' e') (hk : Keeps [g] wr wr') (hb : ∀ a, A3 = some a → a.block ∈ blk A2) (hl : l'.length ≤ l.length) : DcI w wr' g A3 c3 l' e' A c ts := by
  have g0 := h.g0
  refine ⟨hr, ⟨ownsRow_keeps h.op.own hk (fun a ha => ?_), h.op.fr, fun t ht => ⟨(h.op.rd t ht).1.keeps hk (fun a ha => by simpa using h.gt t ht a ha), (h.op.rd t ht).2⟩, h.op.dj, h.op.kp.trans hk (fun t ht => .inr (by simp at ht; omega))⟩, h.g0, h.ga, h.gt, fun a ha hp => ?_⟩
  · simp only [List.mem_singleton]
    exact fun e1 => h.ga (mem_blk.2 ⟨a, ha, e1⟩)
  · obtain ⟨b, e1, e2⟩ := mem_blk.1 (hb a ha)
    rw [← e2]
    exact h.a2 b e1 (by omega)
/-- Another block is written. -/
theorem DcI.other {w wr wr' : World} {g x : Nat} {A2 : Option Addr} {c2 : Nat} {l : List UInt8} {e : Int} {A : Option Addr} {c : Nat} {ts : List Pt} (h : DcI w wr g A2 c2 l e A c ts) (hk : Keeps [x] wr wr')
    (hx : w.heap.size ≤ x ∧ x ∉ blk A ∧ x ≠ g ∧ ∀ s ∈ ts, ∀ y, s.A = some y → y.block ≠ x) : DcI w wr' g A2 c2 l e A c ts := by
  refine ⟨h.rd.keeps hk (by simpa using Ne.symm hx.2.2.1) (fun a ha hp => ?_), ⟨ownsRow_keeps h.op.own hk (fun a ha => ?_), h.op.fr, fun t ht => ⟨(h.op.rd t ht).1.keeps hk (fun a ha => by simpa using hx.2.2.2 t ht a ha), (h.op.rd t ht).2⟩, h.op.dj, h.op.kp.trans hk (fun t ht => .inr (by simp at ht; omega))⟩, h.g0, h.ga, h.gt, h.a2⟩
  · have := h.a2 a ha hp
    simp only [List.mem_singleton]
    omega
  · simp only [List.mem_singleton]
    exact fun e1 => hx.2.1 (mem_blk.2 ⟨a, ha, e1⟩)
/-- A part is added. -/
theorem DcI.add {w wr wa w4 : World} {g : Nat} {A2 : Option Addr} {c2 : Nat} {l : List UInt8} {e : Int} {A A4 : Option Addr} {c c4 n : Nat} {ts : List Pt} {t : Pt} (h : DcI w wr g A2 c2 l e A c ts)
    (hb : OwnB 5 wr t.A t.c t.p.b) (hA : ∀ a, t.A = some a → w.heap.size ≤ a.block ∧ a.block ∉ blk A ∧ a.block ≠ g ∧ ∀ s ∈ ts, ∀ b, s.A = some b → b.block ≠ a.block) (hka : Keeps [] wr wa) (hn : n = ts.length)
    (ho : w4.ownsRow 0 42 4 (.slice A4 (n + 1) c4) (n + 1) (encPt ts ++ t.cells)) (hk : Keeps (blk A) wa w4) (hf : ∀ a, A4 = some a → a.block ∈ blk A ∨ wa.heap.size ≤ a.block) : DcI w w4 g A2 c2 l e A4 c4 (ts ++ [t]) := by
  have s1 := h.rd.lt
  have s2 := hka.size
  have k14 : Keeps (blk A) wr w4 := (hka.mono (by simp)).trans hk (fun t ht => .inl ht)
  refine ⟨h.rd.keeps k14 h.ga (fun a ha hp hm => ?_), h.op.addB hb (fun a ha => ⟨(hA a ha).1, (hA a ha).2.1, (hA a ha).2.2.2⟩) hka hn ho hk hf, h.g0, fun hm => ?_, fun s hs a ha => ?_, h.a2⟩
  · obtain ⟨b, e1, e2⟩ := mem_blk.1 hm
    have h1 := h.a2 a ha hp
    have h2 := h.op.fr b e1
    omega
  · obtain ⟨b, e1, e2⟩ := mem_blk.1 hm
    rcases hf b e1 with h3 | h3
    · rw [e2] at h3; exact h.ga h3
    · omega
  · rcases List.mem_append.1 hs with h1 | h1
    · exact h.gt s h1 a ha
    · obtain rfl := List.mem_singleton.1 h1
      exact (hA a ha).2.2.1
/-- Where a part's own bytes lie that are new. -/
theorem DcI.apart {w wr : World} {g : Nat} {A2 : Option Addr} {c2 : Nat} {l : List UInt8} {e : Int} {A : Option Addr} {c : Nat} {ts : List Pt} (h : DcI w wr g A2 c2 l e A c ts) {b : Nat} (hb : wr.heap.size ≤ b) : w.heap.size ≤ b ∧ b ∉ blk A ∧ b ≠ g ∧ ∀ s ∈ ts, ∀ x, s.A = some x → x.block ≠ b := by
  have s1 := h.op.kp.size
  have s2 := h.rd.lt
  refine ⟨by omega, fun hm => ?_, by omega, fun s hs x hx => ?_⟩
  · obtain ⟨x, e1, e2⟩ := mem_blk.1 hm
    have := ownsRow_lt h.op.own x e1
    omega
  · have := (h.op.rd s hs).1.lt x hx
    omega
/-- The parts, or the error. -/
def DecP10 (b : List UInt8) (w : World) (r : Ending) (w' : World) : Prop :=
  Keeps [] w w' ∧ ((∃ ts A c, decE10 b = .ok (ts.map Pt.p) ∧ ts.length ≤ 64 ∧ OpI w w' A c ts ∧ r = .returned (.tuple #[.slice A ts.length c, .nilIface])) ∨ (decE10 b = .error 3 ∧ r = .returned (.tuple #[.slice none 0 0, errV 3])))
theorem partsR_succ (k : Nat) (l : List UInt8) (e : Int) {l' : List UInt8} {e' : Int} {ps : List Pa} (h : partsR k l e = (l', e', ps)) : partsR (k + 1) l e = ((partR l' e').1, (partR l' e').2.1, ps ++ [(partR l' e').2.2]) := by
  show (_, _, _) = _
  rw [h]
theorem partR_copy (l : List UInt8) (e : Int) (h : (boolR l e).2.2 = true) : partR l e = ((uintR 64 (uintR 64 (boolR l e).1 (boolR l e).2.1).1 (uintR 64 (boolR l e).1 (boolR l e).2.1).2.1).1, (uintR 64 (uintR 64 (boolR l e).1 (boolR l e).2.1).1 (uintR 64 (boolR l e).1 (boolR l e).2.1).2.1).2.1, ⟨true, (uintR 64 (boolR l e).1 (boolR l e).2.1).2.2, (uintR 64 (uintR 64 (boolR l e).1 (boolR l e).2.1).1 (uintR 64 (boolR l e).1 (boolR l e).2.1).2.1).2.2, []⟩) := by
  unfold partR
  rw [if_pos h]
theorem partR_told (l : List UInt8) (e : Int) (h : (boolR l e).2.2 = false) : partR l e = ((bytesR 64 (boolR l e).1 (boolR l e).2.1).1, (bytesR 64 (boolR l e).1 (boolR l e).2.1).2.1, ⟨false, 0, 0, (bytesR 64 (boolR l e).1 (boolR l e).2.1).2.2⟩) := by
  unfold partR
  rw [if_neg (by simp [h])]
end Go.Proofs.Ytljinghhalcnnaa
namespace Go.Proofs.Ytljinghhalcnnaa
open Go.RowKit

theorem uintR64_le (l : List UInt8) (e : Int) : (uintR 64 l e).2.2 ≤ 64 := by
  unfold uintR
  split
  · exact Nat.zero_le _
  · by_cases h : (bnd 64 4 0 l).2.1 = 0
    · exact (bnd_ok (by decide) h).1
    · rw [(bnd_bad h).2]; exact Nat.zero_le _
theorem countR64_le (l : List UInt8) (e : Int) : (countR 64 l e).2.2 ≤ 64 := by
  unfold countR
  split
  · exact Nat.zero_le _
  · by_cases h : (bnd (64 : Int).toNat 4 2 l).2.1 = 0
    · exact (bnd_ok (by decide) h).1
    · rw [(bnd_bad h).2]; exact Nat.zero_le _
theorem infoOp4 : (Try.prog.info? 42).map (·.size) = some 4 := by kernel_rfl
/-- A part is read. -/
structure DcT (w wr : World) (g gx : Nat) (A2 : Option Addr) (c2 : Nat) (l : List UInt8) (e : Int) (A : Option Addr) (c : Nat) (ts : List Pt) (t : Pt) : Prop where
  d : DcI w wr g A2 c2 l e A c ts
  row : wr.heap[gx]? = some (.cells t.cells.toArray 42 (0, 0))
  own : OwnB 5 wr t.A t.c t.p.b
  ap : ∀ a, t.A = some a → w.heap.size ≤ a.block ∧ a.block ∉ blk A ∧ a.block ≠ g ∧ ∀ s ∈ ts, ∀ b, s.A = some b → b.block ≠ a.block
set_option maxRecDepth 100000 in
set_option maxHeartbeats 16000000 in
theorem dec10_any (A0 : Option Addr) (b : List UInt8) (c0 : Nat) (w : World) (hl : b.length ≤ 140737488351232) (hc : b.length ≤ c0) (hr : RdB w A0 b) (hA : ∀ a, A0 = some a → 0 < b.length → a.block < w.heap.size) :
    Calls Try.prog 22 #[.slice A0 b.length c0] w (DecP10 b w) := by
  have H0 := Lib.hid (And.intro (And.intro hl hc) (And.intro hr hA))
  have E3 := Lib.hid (errV_other (show (3 : Int) ≠ 0 by decide))
  clear hl hc hr hA
  go_enter Try.func22, Try.ntmps22
  go_wp2_with fail
  refine (read_any A0 b c0 w H0.out.1.1 H0.out.1.2 H0.out.2.1 H0.out.2.2).mono ?_
  rintro e w1 ⟨rfl, hr1, hk1⟩
  obtain ⟨g, hg⟩ : ∃ g, g = w.heap.size := ⟨_, rfl⟩
  rw [← hg] at hr1 ⊢
  have D1 := Lib.hid (show DcI w w1 g A0 c0 b 0 none 0 [] from ⟨hr1, OpI.nil w w1 hk1, by omega, by simp [blk], by simp, H0.out.2.2⟩)
  clear hr1 hk1 hg
  go_wp2_with fail
  refine (rdcount_any g A0 c0 b 0 w1 D1.out.rd 64 (by omega) (by omega)).mono ?_
  rintro e w2 ⟨A2, c2, l2, hl2, rfl, hr2, hk2, hb2⟩
  obtain ⟨n, hn⟩ : ∃ n, n = (countR 64 b 0).2.2 := ⟨_, rfl⟩
  obtain ⟨e2, he2⟩ : ∃ e2, e2 = (countR 64 b 0).2.1 := ⟨_, rfl⟩
  have hn64 : n ≤ 64 := by rw [hn]; exact countR64_le _ _
  rw [← he2] at hr2
  have D2 := Lib.hid (show DcI w w2 g A2 c2 l2 e2 none 0 [] ∧ l2 = (countR 64 b 0).1 ∧ e2 = (countR 64 b 0).2.1 ∧ n = (countR 64 b 0).2.2 from
    ⟨D1.out.call hr2 hk2 hb2 (by rw [hl2.out]; exact countR_len _ _ _), hl2.out, he2, hn⟩)
  rw [← hn]
  clear hl2 hr2 hk2 hb2 hn he2 D1
  go_wp2_with fail
  go_loopw [5, 11] (fun s5 s11 wr => ∃ (i : Nat) (A : Option Addr) (c : Nat) (ts : List Pt) (A3 : Option Addr) (c3 : Nat) (l : List UInt8) (e : Int), s11 = .int .i64 i ∧ s5 = .slice A ts.length c ∧ i ≤ n ∧ Hid (DcI w wr g A3 c3 l e A c ts ∧ partsR i l2 e2 = (l, e, ts.map Pt.p))) (fun _ s11 _ => n - (intOf s11).toNat)
  case atStart => exact ⟨0, none, 0, [], A2, c2, l2, e2, rfl, rfl, Nat.zero_le _, ⟨D2.out.1, rfl⟩⟩
  case round =>
    obtain ⟨i, A, c, ts, A3, c3, l, e, rfl, rfl, hin, D⟩ := hrel
    have HTL := Lib.hid (show ts.length = i from by have h1 := partsR_len l2 e2 i; rw [D.out.2] at h1; simpa using h1)
    by_cases hlt : i < n
    · have hlti : (i : Int) < (n : Int) := by omega
      have HLT := Lib.hid hlt
      rw [HTL.out]
      have hi64 : i < 64 := by omega
      clear hlt hin
      go_wp2_with fail
      refine (rdbool_any g A3 c3 l e wr D.out.1.rd).mono ?_
      rintro r w3 ⟨A4, c4, l4, hl4, rfl, hr4, hk4, hb4⟩
      obtain ⟨e4, he4⟩ : ∃ e4, e4 = (boolR l e).2.1 := ⟨_, rfl⟩
      rw [← he4] at hr4
      have D4 := Lib.hid (show DcI w w3 g A4 c4 l4 e4 A c ts ∧ l4 = (boolR l e).1 ∧ e4 = (boolR l e).2.1 from ⟨D.out.1.call hr4 hk4 hb4 (by rw [hl4.out]; exact boolR_len _ _), hl4.out, he4⟩)
      clear hl4 hr4 hk4 hb4 he4
      obtain ⟨gx, hgx⟩ : ∃ gx, gx = w3.heap.size := ⟨_, rfl⟩
      cases hcp : (boolR l e).2.2
      case' true =>
        obtain ⟨w4, hw4⟩ : ∃ w4, w4 = w3.alloc (.cells #[.bool true, .int .i64 0, .int .i64 0, .slice none 0 0] 42) := ⟨_, rfl⟩
        have HX := Lib.hid (show Keeps [] w3 w4 ∧ w4.heap[gx]? = some (.cells #[.bool true, .int .i64 0, .int .i64 0, .slice none 0 0] 42 (0, 0)) from ⟨by rw [hw4]; exact (Keeps.refl [] w3).alloc _, by rw [hw4, hgx]; exact heap_alloc_new _ _⟩)
        have HW := Lib.hid (And.intro hw4 hgx)
        have HCP := Lib.hid hcp
        have HGX := Lib.hid (show gx < w4.heap.size ∧ w.heap.size ≤ gx ∧ gx ∉ blk A ∧ gx ≠ g ∧ ∀ s ∈ ts, ∀ y, s.A = some y → y.block ≠ gx from ⟨lt_of_block HX.out.2, D4.out.1.apart (by rw [hgx]; exact Nat.le_refl _)⟩)
        have D5 := Lib.hid (D4.out.1.keeps0 HX.out.1)
        clear hw4 hgx hcp
        go_upto_region 6 with fail
        rw [← HW.out.1, ← HW.out.2]
        have k0 : w4.cell? ⟨gx, 0, none⟩ = some (.bool true) := by rw [cell_of_row _ _ _ _ _ _ HX.out.2]; rfl
        go_wp2_with fail
        refine (rduint_any g A4 c4 l4 e4 w4 D5.out.rd 64).mono ?_
        rintro r w5 ⟨A5, c5, l5, hl5, rfl, hr5, hk5, hb5⟩
        obtain ⟨x, hx⟩ : ∃ x, x = (uintR 64 l4 e4).2.2 := ⟨_, rfl⟩
        obtain ⟨e5, he5⟩ : ∃ e5, e5 = (uintR 64 l4 e4).2.1 := ⟨_, rfl⟩
        rw [← he5] at hr5
        have hx64 : x ≤ 64 := by rw [hx]; exact uintR64_le _ _
        have D6 := Lib.hid (show DcI w w5 g A5 c5 l5 e5 A c ts ∧ l5 = (uintR 64 l4 e4).1 ∧ e5 = (uintR 64 l4 e4).2.1 ∧ x = (uintR 64 l4 e4).2.2 ∧ w5.heap[gx]? = some (.cells #[.bool true, .int .i64 0, .int .i64 0, .slice none 0 0] 42 (0, 0)) from
          ⟨D5.out.call hr5 hk5 hb5 (by rw [hl5.out]; exact uintR_len _ _ _), hl5.out, he5, hx, (hk5.block gx (lt_of_block HX.out.2) (by simpa using HGX.out.2.2.2.1)).trans HX.out.2⟩)
        rw [← hx]
        clear hl5 hr5 hk5 hb5 hx he5 k0
        have f1 : IntKind.i64.wrap (x : Int) = (x : Int) := by rw [IntKind.wrap_i64]; omega
        go_wp2_with fail
        refine (rduint_any g A5 c5 l5 e5 w5 D6.out.1.rd 64).mono ?_
        rintro r w6 ⟨A6, c6, l6, hl6, rfl, hr6, hk6, hb6⟩
        obtain ⟨y, hy⟩ : ∃ y, y = (uintR 64 l5 e5).2.2 := ⟨_, rfl⟩
        obtain ⟨e6, he6⟩ : ∃ e6, e6 = (uintR 64 l5 e5).2.1 := ⟨_, rfl⟩
        rw [← he6] at hr6
        have hy64 : y ≤ 64 := by rw [hy]; exact uintR64_le _ _
        have D7 := Lib.hid (show DcI w w6 g A6 c6 l6 e6 A c ts ∧ l6 = (uintR 64 l5 e5).1 ∧ e6 = (uintR 64 l5 e5).2.1 ∧ y = (uintR 64 l5 e5).2.2 ∧ w6.heap[gx]? = some (.cells #[.bool true, .int .i64 0, .int .i64 0, .slice none 0 0] 42 (0, 0)) from
          ⟨D6.out.1.call hr6 hk6 hb6 (by rw [hl6.out]; exact uintR_len _ _ _), hl6.out, he6, hy, (hk6.block gx (lt_of_block D6.out.2.2.2.2) (by simpa using HGX.out.2.2.2.1)).trans D6.out.2.2.2.2⟩)
        rw [← hy]
        clear hl6 hr6 hk6 hb6 hy he6
        have f2 : IntKind.i64.wrap (y : Int) = (y : Int) := by rw [IntKind.wrap_i64]; omega
        have k1 : w6.cell? ⟨gx, 1, none⟩ = some (.int .i64 0) := by rw [cell_of_row _ _ _ _ _ _ D7.out.2.2.2.2]; rfl
        have k2 : w6.cell? ⟨gx, 2, none⟩ = some (.int .i64 0) := by rw [cell_of_row _ _ _ _ _ _ D7.out.2.2.2.2]; rfl
        have z1 := frozen_of_row w6 gx 1 _ _ D7.out.2.2.2.2
        have z2 := frozen_of_row w6 gx 2 _ _ D7.out.2.2.2.2
        go_upto_region 9 with fail
        obtain ⟨w7, hw7⟩ : ∃ w7, w7 = (w6.setCell ⟨gx, 1, none⟩ (.int .i64 x)).setCell ⟨gx, 2, none⟩ (.int .i64 y) := ⟨_, rfl⟩
        have HO : ∃ (A7 : Option Addr) (c7 : Nat) (l7 : List UInt8) (e7 : Int) (t : Pt), DcT w w7 g gx A7 c7 l7 e7 A c ts t ∧ partsR (i + 1) l2 e2 = (l7, e7, (ts ++ [t]).map Pt.p) := by
          refine ⟨A6, c6, l6, e6, ⟨⟨true, x, y, []⟩, none, 0⟩, ⟨D7.out.1.other (x := gx) (by rw [hw7]; exact ((Keeps.refl [gx] w6).setCell (p := ⟨gx, 1, none⟩) (.inl (by simp)) _).setCell (p := ⟨gx, 2, none⟩) (.inl (by simp)) _) HGX.out.2, ?_, OwnB.nil _ _, by simp⟩, ?_⟩
          · have h1 := heap_setCell_same w6 gx 1 _ _ (.int .i64 x) D7.out.2.2.2.2
            have h2 := heap_setCell_same _ gx 2 _ _ (.int .i64 y) h1
            rw [hw7, h2]
            rfl
          · rw [partsR_succ i l2 e2 D.out.2, partR_copy l e HCP.out, List.map_append]
            rw [← D4.out.2.1, ← D4.out.2.2, ← D6.out.2.1, ← D6.out.2.2.1, ← D7.out.2.1, ← D7.out.2.2.1, ← D6.out.2.2.2.1, ← D7.out.2.2.2.1]
            rfl
        rw [← hw7]
        clear hw7 k1 k2 z1 z2 f1 f2 D7 D6 D5
        obtain ⟨A7, c7, l7, e7, t, O⟩ := HO
        have O := Lib.hid O
      rotate_left
      case' false =>
        obtain ⟨w4, hw4⟩ : ∃ w4, w4 = w3.alloc (.cells #[.bool false, .int .i64 0, .int .i64 0, .slice none 0 0] 42) := ⟨_, rfl⟩
        have HX := Lib.hid (show Keeps [] w3 w4 ∧ w4.heap[gx]? = some (.cells #[.bool false, .int .i64 0, .int .i64 0, .slice none 0 0] 42 (0, 0)) from ⟨by rw [hw4]; exact (Keeps.refl [] w3).alloc _, by rw [hw4, hgx]; exact heap_alloc_new _ _⟩)
        have HW := Lib.hid (And.intro hw4 hgx)
        have HCP := Lib.hid hcp
        have HGX := Lib.hid (show gx < w4.heap.size ∧ w.heap.size ≤ gx ∧ gx ∉ blk A ∧ gx ≠ g ∧ ∀ s ∈ ts, ∀ y, s.A = some y → y.block ≠ gx from ⟨lt_of_block HX.out.2, D4.out.1.apart (by rw [hgx]; exact Nat.le_refl _)⟩)
        have D5 := Lib.hid (D4.out.1.keeps0 HX.out.1)
        clear hw4 hgx hcp
        go_upto_region 6 with fail
        rw [← HW.out.1, ← HW.out.2]
        have k0 : w4.cell? ⟨gx, 0, none⟩ = some (.bool false) := by rw [cell_of_row _ _ _ _ _ _ HX.out.2]; rfl
        go_wp2_with fail
        refine (rdbytes_any g A4 c4 l4 e4 w4 D5.out.rd 64 (by omega) (by omega)).mono ?_
        rintro r w6 ⟨A6, c6, l6, A5, c5, bs, rfl, hl6, hbs, hr6, ho6, hn6, hk6, hb6⟩
        obtain ⟨e6, he6⟩ : ∃ e6, e6 = (bytesR 64 l4 e4).2.1 := ⟨_, rfl⟩
        rw [← he6] at hr6
        have D7 := Lib.hid (show DcI w w6 g A6 c6 l6 e6 A c ts ∧ l6 = (bytesR 64 l4 e4).1 ∧ e6 = (bytesR 64 l4 e4).2.1 ∧ bs = (bytesR 64 l4 e4).2.2 ∧ w6.heap[gx]? = some (.cells #[.bool false, .int .i64 0, .int .i64 0, .slice none 0 0] 42 (0, 0)) ∧ OwnB 5 w6 A5 c5 bs ∧ (∀ a, A5 = some a → w4.heap.size ≤ a.block) from
          ⟨D5.out.call hr6 hk6 hb6 (by rw [hl6.out]; exact bytesR_len1 _ _ _), hl6.out, he6, hbs.out, (hk6.block gx (lt_of_block HX.out.2) (by simpa using HGX.out.2.2.2.1)).trans HX.out.2, ho6, hn6⟩)
        clear hl6 hbs hr6 ho6 hn6 hk6 hb6 he6 k0
        have k3 : w6.cell? ⟨gx, 3, none⟩ = some (.slice none 0 0) := by rw [cell_of_row _ _ _ _ _ _ D7.out.2.2.2.2.1]; rfl
        have z3 := frozen_of_row w6 gx 3 _ _ D7.out.2.2.2.2.1
        go_upto_region 9 with fail
        obtain ⟨w7, hw7⟩ : ∃ w7, w7 = w6.setCell ⟨gx, 3, none⟩ (.slice A5 bs.length c5) := ⟨_, rfl⟩
        have HO : ∃ (A7 : Option Addr) (c7 : Nat) (l7 : List UInt8) (e7 : Int) (t : Pt), DcT w w7 g gx A7 c7 l7 e7 A c ts t ∧ partsR (i + 1) l2 e2 = (l7, e7, (ts ++ [t]).map Pt.p) := by
          have hkk : Keeps [gx] w6 w7 := by rw [hw7]; exact (Keeps.refl [gx] w6).setCell (p := ⟨gx, 3, none⟩) (.inl (by simp)) _
          refine ⟨A6, c6, l6, e6, ⟨⟨false, 0, 0, bs⟩, A5, c5⟩, ⟨D7.out.1.other (x := gx) hkk HGX.out.2, ?_, D7.out.2.2.2.2.2.1.keeps hkk (fun a ha => ?_), fun a ha => D5.out.apart (D7.out.2.2.2.2.2.2 a ha)⟩, ?_⟩
          · have h1 := heap_setCell_same w6 gx 3 _ _ (.slice A5 bs.length c5) D7.out.2.2.2.2.1
            rw [hw7, h1]
            rfl
          · have h1 := D7.out.2.2.2.2.2.2 a ha
            have h2 := HGX.out.1
            simp only [List.mem_singleton]
            omega
          · rw [partsR_succ i l2 e2 D.out.2, partR_told l e HCP.out, List.map_append]
            rw [← D4.out.2.1, ← D4.out.2.2, ← D7.out.2.1, ← D7.out.2.2.1, ← D7.out.2.2.2.1]
            rfl
        rw [← hw7]
        clear hw7 k3 z3 D7 D5
        obtain ⟨A7, c7, l7, e7, t, O⟩ := HO
        have O := Lib.hid O
      all_goals
        clear HX HW HGX D4 HCP
        have hown := O.out.1.d.op.own
        rw [HTL.out] at hown
        have HOWN := Lib.hid hown
        clear hown
        go_wp2_with (first
          | (refine wpList_load_row rfl 42 (.tmp 6) rfl gx rfl 42 #[.bool t.p.cp, .int .i64 t.p.fr, .int .i64 t.p.ln, .slice t.A t.p.b.length t.c] (0, 0) _ O.out.1.row Try.underlying42 rfl infoOp4 ?_)
          | (at_builtin; refine wpList_appendV rfl (.tmp 29) (.tmp 31) 29 42 rfl Try.underlying29 _ 4 48 infoOp rfl (by decide) A c i (encPt ts) rfl (ownsRow_keeps HOWN.out ((Keeps.refl [] w7).alloc _) (by simp)) (some ⟨w7.heap.size, 0, none⟩) 1 1 t.cells rfl (Rd.lit4 (heap_alloc_new _ _)) (Pt.one _) (by unfold maxLen; omega) (by omega) ?_; intro A8 c8 w8 ho hk hf; have D8 := Lib.hid (O.out.1.d.add O.out.1.own O.out.1.ap ((Keeps.refl [] w7).alloc _) HTL.out.symm ho hk hf); clear ho hk hf))
        go_roundw
        case rel => exact ⟨i + 1, A8, c8, ts ++ [t], A7, c7, l7, e7, by go_num, by rw [List.length_append, HTL.out]; rfl, HLT.out, ⟨D8.out, O.out.2⟩⟩
        case measure => have := HLT.out; simp [intOf]; omega
    · have hlti : ¬ (i : Int) < (n : Int) := by omega
      have HDEC := Lib.hid (show (doneR l e = 0 → decE10 b = .ok (ts.map Pt.p)) ∧ (doneR l e ≠ 0 → decE10 b = .error 3) from by
        have hi : i = n := by omega
        unfold decE10
        rw [← D2.out.2.1, ← D2.out.2.2.1, ← D2.out.2.2.2, ← hi, D.out.2]
        simp only
        exact ⟨fun h => if_pos h, fun h => if_neg h⟩)
      have HTN := Lib.hid (show ts.length ≤ 64 from by rw [HTL.out]; omega)
      rw [HTL.out]
      clear hlt hin
      go_wp2_with fail
      refine (rddone_any g A3 c3 l e wr D.out.1.rd).mono ?_
      rintro r w3 ⟨rfl, rfl⟩
      by_cases he : doneR l e = 0
      · rw [he, errV_zero]
        have HE := Lib.hid (HDEC.out.1 he)
        clear he
        go_wp2_with fail
        go_ret2
        exact ⟨D.out.1.op.kp, .inl ⟨ts, A, c, HE.out, HTN.out, D.out.1.op, by rw [HTL.out]; rfl⟩⟩
      · rw [errV_other he]
        have HE := Lib.hid (HDEC.out.2 he)
        go_wp2_with fail
        go_ret2
        exact ⟨D.out.1.op.kp, .inr ⟨HE.out, by rw [E3.out]; rfl⟩⟩
end Go.Proofs.Ytljinghhalcnnaa
namespace Go.Proofs.Ytljinghhalcnnaa
open Go.RowKit

/-- A part's bytes, or the error. -/
def partB (base : List UInt8) (p : Pa) : Except Int (List UInt8) :=
  if p.cp then (if p.fr < 0 ∨ p.ln < 1 ∨ 64 < p.fr ∨ 64 - p.fr < p.ln then .error 4 else .ok ((base.drop p.fr.toNat).take p.ln.toNat)) else (if p.b = [] then .error 3 else .ok p.b)
def ByP (base : List UInt8) (p : Pa) (w : World) (r : Ending) (w' : World) : Prop :=
  Keeps [] w w' ∧ ((∃ e, partB base p = .error e ∧ e ≠ 0 ∧ r = .returned (.tuple #[.slice none 0 0, errV e])) ∨ (∃ l A c, partB base p = .ok l ∧ r = .returned (.tuple #[.slice A l.length c, .nilIface]) ∧ RdB w' A l))
set_option maxRecDepth 100000 in
set_option maxHeartbeats 4000000 in
theorem obytes_any (t : Pt) (SA : Option Addr) (base : List UInt8) (hb : base.length = 64) (w : World) (hr : RdB w SA base) (ht : RdB w t.A t.p.b) (hf : -9223372036854775808 ≤ t.p.fr ∧ t.p.fr ≤ 9223372036854775807) (hn : -9223372036854775808 ≤ t.p.ln ∧ t.p.ln ≤ 9223372036854775807) :
    Calls Try.prog 38 #[.agg #[.bool t.p.cp, .int .i64 t.p.fr, .int .i64 t.p.ln, .slice t.A t.p.b.length t.c], .slice SA 64 64] w (ByP base t.p w) := by
  have HR := Lib.hid (show RdB w SA base ∧ RdB w t.A t.p.b ∧ base.length = 64 from ⟨hr, ht, hb⟩)
  obtain ⟨gx, hgx⟩ : ∃ gx, gx = w.heap.size := ⟨_, rfl⟩
  obtain ⟨W, hW⟩ : ∃ W, W = w.alloc (.cells #[.bool t.p.cp, .int .i64 t.p.fr, .int .i64 t.p.ln, .slice t.A t.p.b.length t.c] 42) := ⟨_, rfl⟩
  have HKW := Lib.hid (show Keeps [] w W from by rw [hW]; exact (Keeps.refl [] w).alloc _)
  have hrow : W.heap[gx]? = some (.cells #[.bool t.p.cp, .int .i64 t.p.fr, .int .i64 t.p.ln, .slice t.A t.p.b.length t.c] 42 (0, 0)) := by rw [hW, hgx]; exact heap_alloc_new _ _
  have k0 : W.cell? ⟨gx, 0, none⟩ = some (.bool t.p.cp) := by rw [cell_of_row _ _ _ _ _ _ hrow]; rfl
  have k1 : W.cell? ⟨gx, 1, none⟩ = some (.int .i64 t.p.fr) := by rw [cell_of_row _ _ _ _ _ _ hrow]; rfl
  have k2 : W.cell? ⟨gx, 2, none⟩ = some (.int .i64 t.p.ln) := by rw [cell_of_row _ _ _ _ _ _ hrow]; rfl
  have k3 : W.cell? ⟨gx, 3, none⟩ = some (.slice t.A t.p.b.length t.c) := by rw [cell_of_row _ _ _ _ _ _ hrow]; rfl
  have HW := Lib.hid (And.intro hW hgx)
  clear hr ht hb hW hgx hrow
  cases hcp : t.p.cp with
  | false =>
    have HCP := Lib.hid hcp
    rw [hcp] at k0 HW
    clear hcp
    by_cases hb0 : t.p.b = []
    · have HP := Lib.hid (show partB base t.p = .error 3 from by unfold partB; rw [HCP.out, if_neg (by simp), if_pos hb0])
      have hl : t.p.b.length = 0 := by rw [hb0]; rfl
      rw [hl] at k3 HW ⊢
      clear hb0 hl
      go_enter Try.func38, Try.ntmps38
      go_upto_region 1 with fail
      rw [← HW.out.1, ← HW.out.2]
      go_wp2_with fail
      go_ret2
      exact ⟨HKW.out, .inl ⟨3, HP.out, by omega, rfl⟩⟩
    · have HP := Lib.hid (show partB base t.p = .ok t.p.b from by unfold partB; rw [HCP.out, if_neg (by simp), if_neg hb0])
      have h0 : ((t.p.b.length : Int) == 0) = false := by
        rw [beq_eq_false_iff_ne]
        have := List.length_pos_iff.2 hb0
        omega
      have h1 : ¬ t.p.b.length = 0 := fun h => hb0 (List.length_eq_zero_iff.1 h)
      clear hb0
      go_enter Try.func38, Try.ntmps38
      go_upto_region 1 with fail
      rw [← HW.out.1, ← HW.out.2]
      go_wp2_with fail
      go_ret2
      exact ⟨HKW.out, .inr ⟨t.p.b, t.A, t.c, HP.out, rfl, HR.out.2.1.keeps0 HKW.out⟩⟩
  | true =>
    have HCP := Lib.hid hcp
    rw [hcp] at k0 HW
    clear hcp
    obtain ⟨f, hff⟩ : ∃ f, f = t.p.fr := ⟨_, rfl⟩
    obtain ⟨m, hmm⟩ : ∃ m, m = t.p.ln := ⟨_, rfl⟩
    rw [← hff] at k1 hf HW ⊢
    rw [← hmm] at k2 hn HW ⊢
    have HFM := Lib.hid (And.intro hff hmm)
    clear hff hmm
    have HB4 := Lib.hid (show (f < 0 ∨ m < 1 ∨ 64 < f ∨ 64 - f < m) → partB base t.p = .error 4 from fun h => by unfold partB; rw [HCP.out, if_pos rfl, ← HFM.out.1, ← HFM.out.2, if_pos h])
    rcases (show f < 0 ∨ (0 ≤ f ∧ m < 1) ∨ (0 ≤ f ∧ 1 ≤ m ∧ 64 < f) ∨ (0 ≤ f ∧ 1 ≤ m ∧ f ≤ 64 ∧ 64 - f < m) ∨ (0 ≤ f ∧ 1 ≤ m ∧ f ≤ 64 ∧ m ≤ 64 - f) from by omega) with h1 | ⟨h1, h2⟩ | ⟨h1, h2, h3⟩ | ⟨h1, h2, h3, h4⟩ | ⟨h1, h2, h3, h4⟩
    · have HP := Lib.hid (HB4.out (.inl h1))
      go_enter Try.func38, Try.ntmps38
      go_upto_region 1 with fail
      rw [← HW.out.1, ← HW.out.2]
      go_wp2_with fail
      go_ret2
      exact ⟨HKW.out, .inl ⟨4, HP.out, by omega, rfl⟩⟩
    · have HP := Lib.hid (HB4.out (.inr (.inl h2)))
      have h1' : ¬ f < 0 := by omega
      clear h1
      go_enter Try.func38, Try.ntmps38
      go_upto_region 1 with fail
      rw [← HW.out.1, ← HW.out.2]
      go_wp2_with fail
      go_ret2
      exact ⟨HKW.out, .inl ⟨4, HP.out, by omega, rfl⟩⟩
    · have HP := Lib.hid (HB4.out (.inr (.inr (.inl h3))))
      have h1' : ¬ f < 0 := by omega
      have h2' : ¬ m < 1 := by omega
      clear h1 h2
      go_enter Try.func38, Try.ntmps38
      go_upto_region 1 with fail
      rw [← HW.out.1, ← HW.out.2]
      go_wp2_with fail
      go_ret2
      exact ⟨HKW.out, .inl ⟨4, HP.out, by omega, rfl⟩⟩
    · have HP := Lib.hid (HB4.out (.inr (.inr (.inr h4))))
      obtain ⟨f', rfl⟩ : ∃ f' : Nat, f = (f' : Int) := ⟨f.toNat, by omega⟩
      have h1' : ¬ (f' : Int) < 0 := by omega
      have h2' : ¬ m < 1 := by omega
      have h3' : ¬ (64 : Int) < (f' : Int) := by omega
      have h5 : wrap64 (64 - (f' : Int)) = 64 - (f' : Int) := by unfold wrap64; omega
      clear h1 h2 h3
      go_enter Try.func38, Try.ntmps38
      go_upto_region 1 with fail
      rw [← HW.out.1, ← HW.out.2]
      go_wp2_with fail
      go_ret2
      exact ⟨HKW.out, .inl ⟨4, HP.out, by omega, rfl⟩⟩
    · obtain ⟨f', rfl⟩ : ∃ f' : Nat, f = (f' : Int) := ⟨f.toNat, by omega⟩
      obtain ⟨m', rfl⟩ : ∃ m' : Nat, m = (m' : Int) := ⟨m.toNat, by omega⟩
      have HP := Lib.hid (show partB base t.p = .ok ((base.drop f').take m') from by
        unfold partB
        rw [HCP.out, if_pos rfl, ← HFM.out.1, ← HFM.out.2, if_neg (by omega)]
        rfl)
      have h1' : ¬ (f' : Int) < 0 := by omega
      have h2' : ¬ (m' : Int) < 1 := by omega
      have h3' : ¬ (64 : Int) < (f' : Int) := by omega
      have h4' : ¬ (64 : Int) - (f' : Int) < (m' : Int) := by omega
      have h5 : wrap64 (64 - (f' : Int)) = 64 - (f' : Int) := by unfold wrap64; omega
      have h6 : wrap64 ((f' : Int) + (m' : Int)) = ((f' + m' : Nat) : Int) := by unfold wrap64; omega
      have HFM2 := Lib.hid (show f' + m' ≤ 64 ∧ f' ≤ 64 from by omega)
      have HSEC := Lib.hid (show RdB W (secA SA f' 64 1) ((base.drop f').take m') from (HR.out.1.keeps0 HKW.out).sec f' m' 64 (by rw [HR.out.2.2]; omega) (by omega))
      clear h1 h2 h3 h4
      go_enter Try.func38, Try.ntmps38
      go_upto_region 1 with fail
      rw [← HW.out.1, ← HW.out.2]
      go_wp2_with (refine wpList_sec rfl 31 (.tmp 50) (some (.tmp 52)) (some (.tmp 57)) none rfl Try.underlying31 infoB1d SA 64 64 f' (f' + m') 64 rfl (Bnd.at_ rfl) (Bnd.at_ (by first | rfl | simp)) Bnd.no (by omega) (by have := HFM2.out; omega) (by omega) (by simp) ?_)
      go_ret2
      refine ⟨HKW.out, .inr ⟨_, secA SA f' 64 1, 64 - f', HP.out, ?_, HSEC.out⟩⟩
      rw [List.length_take, List.length_drop, HR.out.2.2, Nat.min_eq_left (by have := HFM2.out; omega)]
      rfl
end Go.Proofs.Ytljinghhalcnnaa
namespace Go.Proofs.Ytljinghhalcnnaa
open Go.RowKit

def applyF (base : List UInt8) : List Pa → List UInt8 → Except Int (List UInt8)
  | [], all => if all.length = 64 then .ok all else .error 2
  | p :: ps, all => match partB base p with
    | .error e => .error e
    | .ok b => if 64 < all.length + b.length then .error 2 else applyF base ps (all ++ b)
def applyE (base : List UInt8) (ps : List Pa) : Except Int (List UInt8) := applyF base ps []
def z64 : List UInt8 := List.replicate 64 0
theorem z64_len : z64.length = 64 := rfl
theorem zero64k : (#[.int .u8 0, .int .u8 0, .int .u8 0, .int .u8 0, .int .u8 0, .int .u8 0, .int .u8 0, .int .u8 0, .int .u8 0, .int .u8 0, .int .u8 0, .int .u8 0, .int .u8 0, .int .u8 0, .int .u8 0, .int .u8 0, .int .u8 0, .int .u8 0, .int .u8 0, .int .u8 0, .int .u8 0, .int .u8 0, .int .u8 0, .int .u8 0, .int .u8 0, .int .u8 0, .int .u8 0, .int .u8 0, .int .u8 0, .int .u8 0, .int .u8 0, .int .u8 0, .int .u8 0, .int .u8 0, .int .u8 0, .int .u8 0, .int .u8 0, .int .u8 0, .int .u8 0, .int .u8 0, .int .u8 0, .int .u8 0, .int .u8 0, .int .u8 0, .int .u8 0, .int .u8 0, .int .u8 0, .int .u8 0, .int .u8 0, .int .u8 0, .int .u8 0, .int .u8 0, .int .u8 0, .int .u8 0, .int .u8 0, .int .u8 0, .int .u8 0, .int .u8 0, .int .u8 0, .int .u8 0, .int .u8 0, .int .u8 0, .int .u8 0, .int .u8 0] : Array Value) = (encB z64).toArray := rfl
/-- The block, or the error. -/
def ApP (base : List UInt8) (ps : List Pa) (w : World) (r : Ending) (w' : World) : Prop :=
  Keeps [] w w' ∧ ((∃ e, applyE base ps = .error e ∧ e ≠ 0 ∧ r = .returned (.tuple #[.agg (encB z64).toArray, errV e])) ∨ (∃ l, applyE base ps = .ok l ∧ l.length = 64 ∧ r = .returned (.tuple #[.agg (encB l).toArray, .nilIface])))
structure ApI (w wr : World) (g gr : Nat) (base : List UInt8) (A : Option Addr) (c : Nat) (all : List UInt8) : Prop where
  b : wr.heap[g]? = some (.cells (encB base).toArray 23 (0, 0))
  r : wr.heap[gr]? = some (.cells (encB z64).toArray 23 (0, 0))
  own : OwnB 5 wr A c all
  kp : Keeps [] w wr
  ap : ∀ a, A = some a → w.heap.size ≤ a.block ∧ a.block ≠ g ∧ a.block ≠ gr
  g0 : w.heap.size ≤ g ∧ w.heap.size ≤ gr ∧ g ≠ gr
theorem ApI.keeps0 {w wr wr' : World} {g gr : Nat} {base : List UInt8} {A : Option Addr} {c : Nat} {all : List UInt8} (h : ApI w wr g gr base A c all) (hk : Keeps [] wr wr') : ApI w wr' g gr base A c all :=
  ⟨(hk.block g (lt_of_block h.b) (by simp)).trans h.b, (hk.block gr (lt_of_block h.r) (by simp)).trans h.r, h.own.keeps0 hk, h.kp.trans hk (by simp), h.ap, h.g0⟩
theorem ApI.add {w wr w4 : World} {g gr : Nat} {base : List UInt8} {A A4 : Option Addr} {c c4 : Nat} {all all4 : List UInt8} (h : ApI w wr g gr base A c all) (ho : OwnB 5 w4 A4 c4 all4) (hk : Keeps (blk A) wr w4) (hf : ∀ a, A4 = some a → a.block ∈ blk A ∨ wr.heap.size ≤ a.block) : ApI w w4 g gr base A4 c4 all4 := by
  have lg := lt_of_block h.b
  have lr := lt_of_block h.r
  have s1 := h.kp.size
  have hn : ∀ q, (∀ a, A = some a → a.block ≠ q) → q ∉ blk A := fun q h1 hm => by
    obtain ⟨b, e1, e2⟩ := mem_blk.1 hm
    exact h1 b e1 e2
  refine ⟨(hk.block g lg (hn g fun a ha => (h.ap a ha).2.1)).trans h.b, (hk.block gr lr (hn gr fun a ha => (h.ap a ha).2.2)).trans h.r, ho, h.kp.fresh hk (fun a ha => (h.ap a ha).1), fun a ha => ?_, h.g0⟩
  rcases hf a ha with h1 | h1
  · obtain ⟨b, e1, e2⟩ := mem_blk.1 h1
    rw [← e2]; exact h.ap b e1
  · exact ⟨by omega, by omega, by omega⟩
theorem applyF_step (base : List UInt8) (ps : List Pa) (all : List UInt8) {i : Nat} (hi : i < ps.length) : applyF base (ps.drop i) all = match partB base ps[i] with
    | .error e => .error e
    | .ok b => if 64 < all.length + b.length then .error 2 else applyF base (ps.drop (i + 1)) (all ++ b) := by
  rw [List.drop_eq_getElem_cons hi]
  rfl
end Go.Proofs.Ytljinghhalcnnaa
