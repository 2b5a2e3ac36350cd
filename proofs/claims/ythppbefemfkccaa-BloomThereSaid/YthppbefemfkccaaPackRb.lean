/- A number up to a bound: contracts. -/
import Derived.Test.YthppbefemfkccaaPackRd
namespace Go.Proofs.Ythppbefemfkccaa
open Go.RowKit

theorem Rdr.took_n {w : World} {g : Nat} {A : Option Addr} {c : Nat} {l : List UInt8} {e : Int} (h : Rdr w g A c l e) (A' : Option Addr) (n c' : Nat) (l' : List UInt8) (hn : l'.length = n) (hr : RdB w A' l') (hc : n ≤ c') (hl : n ≤ 140737488351232)
    (hA : ∀ a, A' = some a → 0 < n → a.block ≠ g) : Rdr (w.setCell ⟨g, 0, none⟩ (.slice A' n c')) g A' c' l' e := by
  subst hn
  exact h.took A' c' l' hr hc hl hA
/-- A number up to a bound: what is left, the error, the number. -/
def bnd (most : Nat) (above left : Int) (l : List UInt8) : List UInt8 × Int × Nat :=
  if (numB l).2.2 ≠ 0 then (l, (numB l).2.2, 0)
  else if most < (numB l).1 then (l, above, 0)
  else if l.length - (numB l).2.1 < (numB l).1 ∧ left ≠ 0 then (l, left, 0)
  else (l.drop (numB l).2.1, 0, (numB l).1)
def RdV (g : Nat) (A : Option Addr) (r : List UInt8 × Int × Nat) (w : World) (en : Ending) (w' : World) : Prop := RdPost g A r.1 r.2.1 (.int .u64 (r.2.2 : Nat)) w en w'
theorem numB_ok {l : List UInt8} {n k : Nat} (h : numB l = (n, k, 0)) : 0 < l.length := by
  cases l with
  | nil => simp [numB] at h
  | cons b t => simp

theorem bounded_bad (g : Nat) (A : Option Addr) (c : Nat) (l : List UInt8) (e : Int) (w : World) (h : Rdr w g A c l e) (he : e ≠ 0) (most : Nat) (v1 v2 : Value) :
    Calls Try.prog 27 #[.pointer (some ⟨g, 0, none⟩), .agg #[.int .u64 most, v1, v2]] w (RdV g A (l, e, 0) w) := by
  have H := Lib.hid h
  have hd : decide (e ≠ 0) = true := by simp [he]
  clear h
  go_enter Try.func27, Try.ntmps27
  go_wp2_with fail
  refine (stuck_any g A c l e _ (H.out.keeps0 ((Keeps.refl [] w).alloc _))).mono ?_
  rintro en w' ⟨rfl, rfl⟩
  rw [hd]
  go_wp2_with fail
  go_ret
  exact RdPost.before ((Keeps.refl [g] w).alloc _) ((H.out.keeps0 ((Keeps.refl [] w).alloc _)).post _)

set_option maxHeartbeats 2000000 in
theorem bounded_any (g : Nat) (A : Option Addr) (c : Nat) (l : List UInt8) (w : World) (h : Rdr w g A c l 0) (most : Nat) (above left : Int) (ha : above ≠ 0) :
    Calls Try.prog 27 #[.pointer (some ⟨g, 0, none⟩), .agg #[.int .u64 most, errV above, errV left]] w (RdV g A (bnd most above left l) w) := by
  have H := Lib.hid h
  obtain ⟨⟨n, k, er⟩, hnb⟩ : ∃ r, r = numB l := ⟨_, rfl⟩
  have hlt := numB_lt l
  rw [← hnb] at hlt
  obtain ⟨h1, h2, h3, h4⟩ := hlt
  simp only at h1 h2 h3 h4
  have h64 := h.2.2.2.1
  have hcl := h.2.2.1
  have HNB := Lib.hid hnb
  rw [errV_other ha]
  have HA := Lib.hid ha
  clear h ha
  by_cases her : er = 0
  · subst her
    have hpos := numB_ok hnb.symm
    obtain ⟨gA, oA, rfl, _⟩ := H.out.2.1.form hpos
    by_cases hmost : most < n
    · have hmost' : (most : Int) < (n : Int) := by omega
      have hd : decide ((0 : Int) ≠ 0) = false := by simp
      clear hnb
      go_enter Try.func27, Try.ntmps27
      go_wp2_with fail
      refine (stuck_any g _ c l 0 _ (H.out.keeps0 ((Keeps.refl [] w).alloc _))).mono ?_
      rintro en w' ⟨rfl, rfl⟩
      rw [hd]
      have c0 := (H.out.keeps0 ((Keeps.refl [] w).alloc (.cells #[.int .u64 most, .iface 39 (.int .i64 above), errV left] 67))).c0
      go_wp2_with fail
      refine (number_any _ l c _ (by omega) hcl (H.out.2.1.alloc _)).mono ?_
      rintro en w2 ⟨rfl, hk2⟩
      rw [← HNB.out, errV_zero]
      have b0 : w2.cell? ⟨w.heap.size, 0, none⟩ = some (.int .u64 most) := hk2.cell (by simp) (by simp)
      have b1 : w2.cell? ⟨w.heap.size, 1, none⟩ = some (.iface 39 (.int .i64 above)) := hk2.cell (by simp) (by simp)
      have b2 : w2.cell? ⟨w.heap.size, 2, none⟩ = some (errV left) := hk2.cell (by simp) (by simp)
      have K2 := Lib.hid (((Keeps.refl [] w).alloc _).trans hk2 (by simp))
      have H2 := Lib.hid (H.out.keeps0 K2.out)
      have f1 := H2.out.f1
      have f0 := H2.out.f0
      have c0 := H2.out.c0
      have c1 := H2.out.c1
      rw [errV_zero] at c1
      clear hk2
      go_wp2_with fail
      go_ret
      have e1 : bnd most above left l = (l, above, 0) := by unfold bnd; rw [← HNB.out, if_neg (by simp), if_pos hmost]
      rw [e1]
      refine RdPost.before (K2.out.mono (by simp)) (RdPost.before ?_ ((errV_other (n := above) (by first | exact her | exact HA.out | exact hl0) ▸ H2.out.bad above).post _))
      exact Keeps.setCell (p := ⟨g, 1, none⟩) (Keeps.refl [g] w2) (.inl (by simp)) _
    · have hmost' : ¬ (most : Int) < (n : Int) := by omega
      have hk0 : (0 : Int) ≤ (k : Int) := by omega
      have hkl : (k : Int) ≤ (l.length : Int) := by omega
      have hkc : (k : Int) ≤ (c : Int) := by omega
      have hwr : IntKind.u64.wrap ((l.length : Int) - (k : Int)) = (l.length : Int) - (k : Int) := by rw [IntKind.wrap_u64]; omega
      by_cases hleft : l.length - k < n
      · have hleft' : (l.length : Int) - (k : Int) < (n : Int) := by omega
        by_cases hl0 : left = 0
        · subst hl0
          have hd : decide ((0 : Int) ≠ 0) = false := by simp
          clear hnb
          go_enter Try.func27, Try.ntmps27
          go_wp2_with fail
          refine (stuck_any g _ c l 0 _ (H.out.keeps0 ((Keeps.refl [] w).alloc _))).mono ?_
          rintro en w' ⟨rfl, rfl⟩
          rw [hd]
          have c0 := (H.out.keeps0 ((Keeps.refl [] w).alloc (.cells #[.int .u64 most, .iface 39 (.int .i64 above), errV 0] 67))).c0
          go_wp2_with fail
          refine (number_any _ l c _ (by omega) hcl (H.out.2.1.alloc _)).mono ?_
          rintro en w2 ⟨rfl, hk2⟩
          rw [← HNB.out, errV_zero]
          have b0 : w2.cell? ⟨w.heap.size, 0, none⟩ = some (.int .u64 most) := hk2.cell (by simp) (by simp)
          have b1 : w2.cell? ⟨w.heap.size, 1, none⟩ = some (.iface 39 (.int .i64 above)) := hk2.cell (by simp) (by simp)
          have b2 : w2.cell? ⟨w.heap.size, 2, none⟩ = some .nilIface := hk2.cell (by simp [errV_zero]) (by simp)
          have K2 := Lib.hid (((Keeps.refl [] w).alloc _).trans hk2 (by simp))
          have H2 := Lib.hid (H.out.keeps0 K2.out)
          have f1 := H2.out.f1
          have f0 := H2.out.f0
          have c0 := H2.out.c0
          have c1 := H2.out.c1
          rw [errV_zero] at c1
          clear hk2
          go_wp2_with fail
          all_goals
            go_ret
            have e1 : bnd most above 0 l = (l.drop k, 0, n) := by unfold bnd; rw [← HNB.out, if_neg (by simp), if_neg hmost, if_neg (by simp)]
            rw [e1]
            refine RdPost.before (K2.out.mono (by simp)) ?_
            exact ⟨_, _, _, rfl, rfl, Rdr.took_n H2.out _ _ _ _ (by simp) (RdB.behind H2.out.2.1 k h3 _ (by intro hq; first | rfl | omega)) (by omega) (by omega) (fun a ha hl => by first | (exfalso; omega) | (rw [← Option.some.inj ha]; exact H2.out.2.2.2.2 ⟨gA, oA, none⟩ rfl (by omega))), Keeps.setCell (p := ⟨g, 0, none⟩) (Keeps.refl [g] w2) (.inl (by simp)) _, fun a ha => by rw [← Option.some.inj ha]; exact mem_blk.2 ⟨_, rfl, rfl⟩⟩
        · rw [errV_other hl0]
          have hd : decide ((0 : Int) ≠ 0) = false := by simp
          clear hnb
          go_enter Try.func27, Try.ntmps27
          go_wp2_with fail
          refine (stuck_any g _ c l 0 _ (H.out.keeps0 ((Keeps.refl [] w).alloc _))).mono ?_
          rintro en w' ⟨rfl, rfl⟩
          rw [hd]
          have c0 := (H.out.keeps0 ((Keeps.refl [] w).alloc (.cells #[.int .u64 most, .iface 39 (.int .i64 above), .iface 39 (.int .i64 left)] 67))).c0
          go_wp2_with fail
          refine (number_any _ l c _ (by omega) hcl (H.out.2.1.alloc _)).mono ?_
          rintro en w2 ⟨rfl, hk2⟩
          rw [← HNB.out, errV_zero]
          have b0 : w2.cell? ⟨w.heap.size, 0, none⟩ = some (.int .u64 most) := hk2.cell (by simp) (by simp)
          have b1 : w2.cell? ⟨w.heap.size, 1, none⟩ = some (.iface 39 (.int .i64 above)) := hk2.cell (by simp) (by simp)
          have b2 : w2.cell? ⟨w.heap.size, 2, none⟩ = some (.iface 39 (.int .i64 left)) := hk2.cell (by simp) (by simp)
          have K2 := Lib.hid (((Keeps.refl [] w).alloc _).trans hk2 (by simp))
          have H2 := Lib.hid (H.out.keeps0 K2.out)
          have f1 := H2.out.f1
          have f0 := H2.out.f0
          have c0 := H2.out.c0
          have c1 := H2.out.c1
          rw [errV_zero] at c1
          clear hk2
          go_wp2_with fail
          go_ret
          have e1 : bnd most above left l = (l, left, 0) := by unfold bnd; rw [← HNB.out, if_neg (by simp), if_neg hmost, if_pos ⟨hleft, hl0⟩]
          rw [e1]
          refine RdPost.before (K2.out.mono (by simp)) (RdPost.before ?_ ((errV_other (n := left) (by first | exact her | exact HA.out | exact hl0) ▸ H2.out.bad left).post _))
          exact Keeps.setCell (p := ⟨g, 1, none⟩) (Keeps.refl [g] w2) (.inl (by simp)) _
      · have hleft' : ¬ (l.length : Int) - (k : Int) < (n : Int) := by omega
        have hd : decide ((0 : Int) ≠ 0) = false := by simp
        clear hnb
        go_enter Try.func27, Try.ntmps27
        go_wp2_with fail
        refine (stuck_any g _ c l 0 _ (H.out.keeps0 ((Keeps.refl [] w).alloc _))).mono ?_
        rintro en w' ⟨rfl, rfl⟩
        rw [hd]
        have c0 := (H.out.keeps0 ((Keeps.refl [] w).alloc (.cells #[.int .u64 most, .iface 39 (.int .i64 above), errV left] 67))).c0
        go_wp2_with fail
        refine (number_any _ l c _ (by omega) hcl (H.out.2.1.alloc _)).mono ?_
        rintro en w2 ⟨rfl, hk2⟩
        rw [← HNB.out, errV_zero]
        have b0 : w2.cell? ⟨w.heap.size, 0, none⟩ = some (.int .u64 most) := hk2.cell (by simp) (by simp)
        have b1 : w2.cell? ⟨w.heap.size, 1, none⟩ = some (.iface 39 (.int .i64 above)) := hk2.cell (by simp) (by simp)
        have b2 : w2.cell? ⟨w.heap.size, 2, none⟩ = some (errV left) := hk2.cell (by simp) (by simp)
        have K2 := Lib.hid (((Keeps.refl [] w).alloc _).trans hk2 (by simp))
        have H2 := Lib.hid (H.out.keeps0 K2.out)
        have f1 := H2.out.f1
        have f0 := H2.out.f0
        have c0 := H2.out.c0
        have c1 := H2.out.c1
        rw [errV_zero] at c1
        clear hk2
        go_wp2_with fail
        all_goals
          go_ret
          have e1 : bnd most above left l = (l.drop k, 0, n) := by unfold bnd; rw [← HNB.out, if_neg (by simp), if_neg hmost, if_neg (fun h => hleft h.1)]
          rw [e1]
          refine RdPost.before (K2.out.mono (by simp)) ?_
          exact ⟨_, _, _, rfl, rfl, Rdr.took_n H2.out _ _ _ _ (by simp) (RdB.behind H2.out.2.1 k h3 _ (by intro hq; first | rfl | omega)) (by omega) (by omega) (fun a ha hl => by first | (exfalso; omega) | (rw [← Option.some.inj ha]; exact H2.out.2.2.2.2 ⟨gA, oA, none⟩ rfl (by omega))), Keeps.setCell (p := ⟨g, 0, none⟩) (Keeps.refl [g] w2) (.inl (by simp)) _, fun a ha => by rw [← Option.some.inj ha]; exact mem_blk.2 ⟨_, rfl, rfl⟩⟩
  · have hd : decide ((0 : Int) ≠ 0) = false := by simp
    clear hnb
    go_enter Try.func27, Try.ntmps27
    go_wp2_with fail
    refine (stuck_any g _ c l 0 _ (H.out.keeps0 ((Keeps.refl [] w).alloc _))).mono ?_
    rintro en w' ⟨rfl, rfl⟩
    rw [hd]
    have c0 := (H.out.keeps0 ((Keeps.refl [] w).alloc (.cells #[.int .u64 most, .iface 39 (.int .i64 above), errV left] 67))).c0
    go_wp2_with fail
    refine (number_any _ l c _ (by omega) hcl (H.out.2.1.alloc _)).mono ?_
    rintro en w2 ⟨rfl, hk2⟩
    rw [← HNB.out, errV_other her]
    have K2 := Lib.hid (((Keeps.refl [] w).alloc _).trans hk2 (by simp))
    have H2 := Lib.hid (H.out.keeps0 K2.out)
    have f1 := H2.out.f1
    have f0 := H2.out.f0
    have c0 := H2.out.c0
    have c1 := H2.out.c1
    rw [errV_zero] at c1
    clear hk2
    go_wp2_with fail
    go_ret
    have e1 : bnd most above left l = (l, er, 0) := by unfold bnd; rw [← HNB.out, if_pos her]
    rw [e1]
    refine RdPost.before (K2.out.mono (by simp)) (RdPost.before ?_ ((errV_other (n := er) (by first | exact her | exact HA.out | exact hl0) ▸ H2.out.bad er).post _))
    exact Keeps.setCell (p := ⟨g, 1, none⟩) (Keeps.refl [g] w2) (.inl (by simp)) _
end Go.Proofs.Ythppbefemfkccaa
