/- Numbers taken off: contracts. -/
import Derived.Test.YtficgbeolmdbiaaPackRb
import Derived.Test.YtficgbeolmdbiaaPackWr
namespace Go.Proofs.Ytficgbeolmdbiaa
open Go.RowKit

/-- A number from 0 on. -/
def uintR (most : Nat) (l : List UInt8) (e : Int) : List UInt8 × Int × Nat := if e ≠ 0 then (l, e, 0) else bnd most 4 0 l
theorem bnd_ok {most : Nat} {above left : Int} {l : List UInt8} (ha : above ≠ 0) (h : (bnd most above left l).2.1 = 0) : (bnd most above left l).2.2 ≤ most ∧ (bnd most above left l).2.2 < 2 ^ 64 := by
  have hl := numB_lt l
  unfold bnd at h ⊢
  split at h
  · rename_i h1; exact absurd h h1
  · rename_i h1
    rw [if_neg h1]
    split at h
    · exact absurd h ha
    · rename_i h2
      rw [if_neg h2]
      split at h
      · rename_i h3; exact absurd h h3.2
      · rename_i h3
        rw [if_neg h3]
        exact ⟨by show (numB l).1 ≤ most; omega, hl.1⟩
theorem bnd_len (most : Nat) (above left : Int) (l : List UInt8) : (bnd most above left l).2.2 < 2 ^ 64 := by
  have hl := numB_lt l
  unfold bnd
  repeat' split
  all_goals first | exact hl.1 | (show 0 < 2 ^ 64; decide)

theorem rduint_any (g : Nat) (A : Option Addr) (c : Nat) (l : List UInt8) (e : Int) (w : World) (h : Rdr w g A c l e) (most : Nat) :
    Calls Try.prog 13 #[.pointer (some ⟨g, 0, none⟩), .int .u64 most] w (RdV g A (uintR most l e) w) := by
  have H := Lib.hid h
  clear h
  have call : Calls Try.prog 35 #[.pointer (some ⟨g, 0, none⟩), .agg #[.int .u64 most, .iface 69 (.int .i64 4), .nilIface]] w (RdV g A (uintR most l e) w) := by
    by_cases he : e = 0
    · subst he
      have := bounded_any g A c l w H.out most 4 0 (by decide)
      rw [errV_zero, errV_other (by decide)] at this
      unfold uintR
      rw [if_neg (by simp)]
      exact this
    · unfold uintR
      rw [if_pos he]
      exact bounded_bad g A c l e w H.out he most _ _
  have HC := Lib.hid call
  clear call
  go_enter Try.func13, Try.ntmps13
  go_wp2_with fail
  refine HC.out.mono ?_
  rintro en w' ⟨A', c', l', hl, rfl, hr, hk, hb⟩
  have HP := Lib.hid (And.intro hr (And.intro hk hb))
  clear hr hk hb
  go_wp2_with fail
  go_ret
  exact ⟨A', c', l', hl, rfl, HP.out.1, HP.out.2⟩

/-- A number. -/
def intR (l : List UInt8) (e : Int) : List UInt8 × Int × Int :=
  if e ≠ 0 then (l, e, 0) else match l with
  | [] => ([], 12, 0)
  | b :: t => if 1 < b.toNat then (b :: t, 3, 0) else
    if (bnd 9223372036854775807 4 0 t).2.1 ≠ 0 then (b :: t, (bnd 9223372036854775807 4 0 t).2.1, 0)
    else ((bnd 9223372036854775807 4 0 t).1, 0, if b.toNat = 1 then -(((bnd 9223372036854775807 4 0 t).2.2 : Nat) + 1 : Int) else ((bnd 9223372036854775807 4 0 t).2.2 : Nat))
def RdI (g : Nat) (A : Option Addr) (r : List UInt8 × Int × Int) (w : World) (en : Ending) (w' : World) : Prop := RdPost g A r.1 r.2.1 (.int .i64 r.2.2) w en w'

set_option maxHeartbeats 1000000 in
theorem rdint_any (g : Nat) (A : Option Addr) (c : Nat) (l : List UInt8) (e : Int) (w : World) (h : Rdr w g A c l e) :
    Calls Try.prog 14 #[.pointer (some ⟨g, 0, none⟩)] w (RdI g A (intR l e) w) := by
  have H := Lib.hid h
  by_cases he : e = 0
  · subst he
    have hd : decide ((0 : Int) ≠ 0) = false := by simp
    rcases l with _ | ⟨b, t⟩
    · have c0 := h.c0
      have c1 := h.c1
      have f1 := h.f1
      rw [errV_zero] at c1
      clear h
      go_enter Try.func14, Try.ntmps14
      go_wp2_with fail
      refine (stuck_any g A c _ 0 _ H.out).mono ?_
      rintro en w' ⟨rfl, rfl⟩
      rw [hd]
      go_wp2_with fail
      go_ret
      exact RdPost.before (Keeps.setCell (p := ⟨g, 1, none⟩) (Keeps.refl [g] w) (.inl (by simp)) _) (((errV_other (n := 12) (by decide)) ▸ H.out.bad 12).post _)
    · obtain ⟨gA, oA, rfl, hcell⟩ := h.2.1.form (by simp)
      have q0 : w.cell? ⟨gA, oA, none⟩ = some (.int .u8 (b.toNat : Int)) := hcell 0 (by simp)
      have hb := byte_lt b
      have c0 := h.c0
      have c1 := h.c1
      have f0 := h.f0
      have f1 := h.f1
      have hcl : t.length + 1 ≤ c := by simpa using h.2.2.1
      have h64 : t.length + 1 ≤ 140737488351232 := by simpa using h.2.2.2.1
      have hne : gA ≠ g := h.2.2.2.2 ⟨gA, oA, none⟩ rfl (by simp)
      rw [errV_zero] at c1
      rw [List.length_cons] at c0
      clear h hcell
      have i1 : (1 : Int) ≤ (t.length : Int) + 1 := by omega
      have i2 : (1 : Int) ≤ (c : Int) := by omega
      by_cases hb1 : 1 < b.toNat
      · have e1 : intR (b :: t) 0 = (b :: t, 3, 0) := by unfold intR; rw [if_neg (by simp)]; simp only [if_pos hb1]
        rw [e1]
        clear e1
        have hb1' : (1 : Int) < (b.toNat : Int) := by omega
        have HB1 := Lib.hid hb1
        clear i1 i2 hne hb1 hb
        go_enter Try.func14, Try.ntmps14
        go_wp2_with fail
        refine (stuck_any g _ c _ 0 _ H.out).mono ?_
        rintro en w' ⟨rfl, rfl⟩
        rw [hd]
        go_wp2_with fail
        go_ret
        exact RdPost.before (Keeps.setCell (p := ⟨g, 1, none⟩) (Keeps.refl [g] w) (.inl (by simp)) _) (((errV_other (n := 3) (by decide)) ▸ H.out.bad 3).post _)
      · have HB1 := Lib.hid hb1
        have hb1' : ¬ (1 : Int) < (b.toNat : Int) := by omega
        clear hb1 hb
        obtain ⟨⟨l1, e1, n⟩, hbnd⟩ : ∃ r, r = bnd 9223372036854775807 4 0 t := ⟨_, rfl⟩
        have HBND := Lib.hid hbnd
        clear hbnd
        go_enter Try.func14, Try.ntmps14
        go_wp2_with fail
        refine (stuck_any g _ c _ 0 _ H.out).mono ?_
        rintro en w' ⟨rfl, rfl⟩
        rw [hd]
        go_wp2_with fail
        all_goals
          refine Calls.mono (rduint_any g _ _ t 0 _ (by exact Rdr.took_n H.out _ _ _ t rfl (RdB.behind H.out.2.1 1 (by simp) _ (by intro hq; first | rfl | (exfalso; simp at hq; omega))) (by omega) (by omega) (fun a ha hl => by first | (rw [← Option.some.inj ha]; exact hne) | (exfalso; omega))) 9223372036854775807) ?_
          have eu : uintR 9223372036854775807 t 0 = (l1, e1, n) := by rw [HBND.out]; rfl
          rw [eu]
          rintro en w2 ⟨A2, c2, l2, hl2, rfl, hr2, hk2, hb2⟩
          have H2 := Lib.hid hr2
          have K2 := Lib.hid (show Keeps [g] w w2 from (Keeps.setCell (p := ⟨g, 0, none⟩) (Keeps.refl [g] w) (.inl (by simp)) _).trans hk2 (fun t ht => .inl ht))
          have q2 := K2.out.cell q0 (by simpa using hne)
          have hf0 := hr2.f0
          have hc1 := hr2.c1
          have hc0 := hr2.c0
          clear hr2 hk2 q0 c0 c1 f0 f1 eu
          have eI : intR (b :: t) 0 = if e1 ≠ 0 then (b :: t, e1, 0) else (l1, 0, if b.toNat = 1 then -((n : Int) + 1) else (n : Int)) := by
            unfold intR
            rw [if_neg (by simp)]
            simp only [if_neg HB1.out, ← HBND.out]
          have EI := Lib.hid eI
          have HB2 := Lib.hid hb2
          clear eI hb2
          by_cases he1 : e1 = 0
          · subst he1
            rw [errV_zero] at hc1
            have hn : n ≤ 9223372036854775807 := by
              have := (bnd_ok (most := 9223372036854775807) (above := 4) (left := 0) (l := t) (by decide) (by rw [← HBND.out])).1
              rw [← HBND.out] at this
              exact this
            have hwn : IntKind.i64.wrap (n : Int) = (n : Int) := by rw [IntKind.wrap_i64]; omega
            by_cases hb1 : b.toNat = 1
            · have hx := i64_not_any n (by omega) (by omega)
              have hbi : (b.toNat : Int) = 1 := by omega
              have e2 : intR (b :: t) 0 = (l1, 0, -((n : Int) + 1)) := by rw [EI.out, if_neg (by simp), if_pos hb1]
              have E2 := Lib.hid e2
              rw [hbi] at q2
              clear hb1 hbi hb1' hn e2
              go_wp2_with fail
              go_ret
              rw [E2.out]
              exact ⟨A2, c2, l2, hl2, rfl, H2.out, K2.out, fun a ha => by have := HB2.out a ha; simpa [blk] using this⟩
            · have hbi : ¬ (b.toNat : Int) = 1 := by omega
              have e2 : intR (b :: t) 0 = (l1, 0, (n : Int)) := by rw [EI.out, if_neg (by simp), if_neg hb1]
              have E2 := Lib.hid e2
              clear hb1 hb1' hn e2
              go_wp2_with fail
              go_ret
              rw [E2.out]
              exact ⟨A2, c2, l2, hl2, rfl, H2.out, K2.out, fun a ha => by have := HB2.out a ha; simpa [blk] using this⟩
          · rw [errV_other he1] at hc1
            go_wp2_with fail
            go_ret
            rw [EI.out, if_pos he1]
            exact ⟨some ⟨gA, oA, none⟩, _, b :: t, rfl, rfl, Rdr.took_n H2.out _ _ _ (b :: t) rfl (H.out.2.1.keeps K2.out (fun a ha _ => by rw [← Option.some.inj ha]; simpa using hne)) (by omega) (by omega) (fun a ha _ => by rw [← Option.some.inj ha]; exact hne), K2.out.trans (Keeps.setCell (S := [g]) (p := ⟨g, 0, none⟩) (Keeps.refl [g] w2) (.inl (by simp)) _) (fun t ht => .inl ht), fun a ha => mem_blk.2 ⟨a, ha, rfl⟩⟩
  · have hd : decide (e ≠ 0) = true := by simp [he]
    clear h
    go_enter Try.func14, Try.ntmps14
    go_wp2_with fail
    refine (stuck_any g A c l e _ H.out).mono ?_
    rintro en w' ⟨rfl, rfl⟩
    rw [hd]
    go_wp2_with fail
    go_ret
    have e1 : intR l e = (l, e, 0) := by unfold intR; rw [if_pos he]
    rw [e1]
    exact H.out.post _
theorem rdint_spec (g : Nat) (A : Option Addr) (c : Nat) (l : List UInt8) (e : Int) (w : World) (h : Rdr w g A c l e) (r : List UInt8 × Int × Int) (hr : intR l e = r) :
    Calls Try.prog 14 #[.pointer (some ⟨g, 0, none⟩)] w (RdI g A r w) := by
  subst hr
  exact rdint_any g A c l e w h
end Go.Proofs.Ytficgbeolmdbiaa
