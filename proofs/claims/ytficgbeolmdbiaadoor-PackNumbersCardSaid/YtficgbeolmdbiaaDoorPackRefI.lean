/- An int, by the document's reader: a contract. -/
import Derived.Test.YtficgbeolmdbiaaDoorPackRefR
namespace Go.Proofs.YtficgbeolmdbiaaDoor
open Go.RowKit

set_option maxHeartbeats 2000000 in
theorem refreadint_big (gA oA : Nat) (b : UInt8) (t : List UInt8) (c : Nat) (w : World) (h64 : t.length + 1 ≤ 140737488351232) (hcl' : t.length + 1 ≤ c) (hc1 : ¬ c = 1) (hlA : gA < w.heap.size) (q0 : w.cell? ⟨gA, oA, none⟩ = some (.int .u8 (b.toNat : Int))) (hr : RdB w (some ⟨gA, oA, none⟩) (b :: t)) (hb1 : ¬ 1 < b.toNat) :
    Calls Tryd.prog 10 #[.agg #[.slice (some ⟨gA, oA, none⟩) (t.length + 1) c, .int .i64 0]] w (RefP (some ⟨gA, oA, none⟩) (intR (b :: t) 0).1 (intR (b :: t) 0).2.1 (.int .i64 (intR (b :: t) 0).2.2) w) := by
        have HR := Lib.hid hr
        have i1 : (1 : Int) ≤ (t.length : Int) + 1 := by omega
        have i2 : (1 : Int) ≤ (c : Int) := by omega
        clear hr
        have HB1 := Lib.hid hb1
        have hb1' : ¬ (1 : Int) < (b.toNat : Int) := by omega
        obtain ⟨⟨l1, e1, n⟩, hbnd⟩ : ∃ r, r = bnd 9223372036854775807 4 0 t := ⟨_, rfl⟩
        have HBND := Lib.hid hbnd
        have eI : intR (b :: t) 0 = if e1 ≠ 0 then (b :: t, e1, 0) else (l1, 0, if b.toNat = 1 then -((n : Int) + 1) else (n : Int)) := by
          unfold intR
          rw [if_neg (by simp)]
          simp only [if_neg HB1.out, ← HBND.out]
        have EI := Lib.hid eI
        clear hbnd hb1 eI
        go_enter Tryd.func10, Tryd.ntmps10
        go_wp2_with fail
        all_goals
          refine Calls.mono (refreaduint_any _ t _ 0 _ (by omega) (by omega) (by exact RdB.behind ((HR.out.alloc _).alloc _) 1 (by simp) _ (by intro hq; first | rfl | (exfalso; simp at hq; omega))) 9223372036854775807) ?_
          have eu : uintR 9223372036854775807 t 0 = (l1, e1, n) := by rw [HBND.out]; rfl
          rw [eu]
          rintro en w2 ⟨A2, c2, l2, hl2, rfl, hr2, hc2, hk2, hb2⟩
          have HR2 := Lib.hid hr2
          have HB2 := Lib.hid hb2
          clear hr2 hb2 eu
          have hb0 : w2.heap[w.heap.size]? = some (.cells #[.slice (some ⟨gA, oA, none⟩) (t.length + 1) c, .int .i64 0] 29 (0, 0)) := (hk2.block w.heap.size (by simp; omega) (by simp)).trans ((Below.heap_alloc _ _ _ (by simp)).trans (heap_alloc_new _ _))
          have hb1 : w2.heap[w.heap.size + 1]? = some (.cells #[.slice none 0 0, .int .i64 0] 29 (0, 0)) := (hk2.block (w.heap.size + 1) (by simp) (by simp)).trans (two_new _ _ _)
          have b0 : w2.cell? ⟨w.heap.size, 0, none⟩ = some (.slice (some ⟨gA, oA, none⟩) (t.length + 1) c) := by rw [cell_of_row _ _ _ _ _ _ hb0]; rfl
          have b1 : w2.cell? ⟨w.heap.size, 1, none⟩ = some (.int .i64 0) := by rw [cell_of_row _ _ _ _ _ _ hb0]; rfl
          have b2 : w2.cell? ⟨w.heap.size + 1, 0, none⟩ = some (.slice none 0 0) := by rw [cell_of_row _ _ _ _ _ _ hb1]; rfl
          have b3 : w2.cell? ⟨w.heap.size + 1, 1, none⟩ = some (.int .i64 0) := by rw [cell_of_row _ _ _ _ _ _ hb1]; rfl
          have f0 : w2.frozen? ⟨w.heap.size, 0, none⟩ = false := frozen_of_row w2 _ 0 _ _ hb0
          have f1 : w2.frozen? ⟨w.heap.size, 1, none⟩ = false := frozen_of_row w2 _ 1 _ _ hb0
          have f2 : w2.frozen? ⟨w.heap.size + 1, 0, none⟩ = false := frozen_of_row w2 _ 0 _ _ hb1
          have f3 : w2.frozen? ⟨w.heap.size + 1, 1, none⟩ = false := frozen_of_row w2 _ 1 _ _ hb1
          have z2 : w.heap.size + 2 ≤ w2.heap.size := by have := hk2.size; simp at this; omega
          have K2 := Lib.hid ((((Keeps.refl [] w).alloc _).alloc _).trans hk2 (by simp))
          clear hk2 hb0 hb1
          have q2 := K2.out.cell q0 (by simp)
          have hg2 : gA < w2.heap.size := by omega
          have n0 : w.heap.size < w2.heap.size := by omega
          have n1 : w.heap.size + 1 < w2.heap.size := by omega
          clear z2
          clear q0
          by_cases he1 : e1 = 0
          · subst he1
            have hn : n ≤ 9223372036854775807 := by
              have := (bnd_ok (most := 9223372036854775807) (above := 4) (left := 0) (l := t) (by decide) (by rw [← HBND.out])).1
              rw [← HBND.out] at this
              exact this
            have hwn : IntKind.i64.wrap (n : Int) = (n : Int) := by rw [IntKind.wrap_i64]; omega
            have hwn2 : IntKind.i64.wrap (-(n : Int)) = -(n : Int) := by rw [IntKind.wrap_i64]; omega
            by_cases hb1 : b.toNat = 1
            · have hbi : (b.toNat : Int) = 1 := by omega
              have hwn3 : IntKind.i64.wrap (-(n : Int) - 1) = -(n : Int) - 1 := by rw [IntKind.wrap_i64]; omega
              have E2 := Lib.hid (show intR (b :: t) 0 = (l1, 0, -(n : Int) - 1) by rw [EI.out, if_neg (by simp), if_pos hb1]; congr 2; omega)
              rw [hbi] at q2
              clear hb1 hbi hb1' hn
              go_wp2_with fail
              rw [E2.out]
              refine bodyPost_ret (v := .tuple #[.agg #[.slice A2 l2.length c2, .int .i64 0], .int .i64 (-(n : Int) - 1)]) (by simp [results, Tryd.results10, go_sem, b2, b3, n1]) rfl ⟨A2, c2, l2, hl2, rfl, HR2.out.keeps (S := [w.heap.size + 1]) ?_ (fun a ha _ => by have := HB2.out a ha; simp [blk] at this ⊢; omega), hc2, ?_, fun a ha => by have := HB2.out a ha; simpa [blk] using this⟩
              · repeat (first | exact Keeps.refl [w.heap.size + 1] w2 | refine Keeps.setCell ?_ (.inl (by simp)) _ | refine Keeps.alloc ?_ _)
              · repeat (first | exact K2.out | refine Keeps.setCell ?_ (.inr (by simp)) _ | refine Keeps.alloc ?_ _)
            · have hbi : ¬ (b.toNat : Int) = 1 := by omega
              have E2 := Lib.hid (show intR (b :: t) 0 = (l1, 0, (n : Int)) by rw [EI.out, if_neg (by simp), if_neg hb1])
              clear hb1 hb1' hn
              go_wp2_with fail
              rw [E2.out]
              refine bodyPost_ret (v := .tuple #[.agg #[.slice A2 l2.length c2, .int .i64 0], .int .i64 (n : Int)]) (by simp [results, Tryd.results10, go_sem, b2, b3, n1]) rfl ⟨A2, c2, l2, hl2, rfl, HR2.out.keeps (S := [w.heap.size + 1]) ?_ (fun a ha _ => by have := HB2.out a ha; simp [blk] at this ⊢; omega), hc2, ?_, fun a ha => by have := HB2.out a ha; simpa [blk] using this⟩
              · repeat (first | exact Keeps.refl [w.heap.size + 1] w2 | refine Keeps.setCell ?_ (.inl (by simp)) _ | refine Keeps.alloc ?_ _)
              · repeat (first | exact K2.out | refine Keeps.setCell ?_ (.inr (by simp)) _ | refine Keeps.alloc ?_ _)
          · go_wp2_with fail
            refine (reffail_any _ _ _ 0 e1 _).mono ?_
            rintro en w3 ⟨rfl, hk3⟩
            rw [if_pos rfl]
            have hk3' : Keeps [] w2 w3 := ((Keeps.refl [] w2).alloc (.cells #[.slice A2 l2.length c2, .int .i64 e1] 29)).trans hk3 (by simp)
            have b2' := hk3'.cell b2 (by simp)
            have b3' := hk3'.cell b3 (by simp)
            have f2' := hk3'.frozen f2 b2 (by simp)
            have f3' := hk3'.frozen f3 b3 (by simp)
            have K3 := Lib.hid (K2.out.trans hk3' (by simp))
            clear hk3'
            clear hk3 b0 b1 b2 b3 f0 f1 f2 f3
            go_wp2_with fail
            rw [EI.out, if_pos he1]
            refine bodyPost_ret (v := .tuple #[.agg #[.slice (some ⟨gA, oA, none⟩) (t.length + 1) c, .int .i64 e1], .int .i64 0]) (by simp [results, Tryd.results10, go_sem, b2', b3']) rfl ⟨some ⟨gA, oA, none⟩, c, b :: t, rfl, rfl, HR.out.keeps0 ?_, by simpa using hcl', ?_, fun a ha => mem_blk.2 ⟨a, ha, rfl⟩⟩
            all_goals repeat (first | exact K3.out | refine Keeps.setCell ?_ (.inr (by simp)) _)
set_option maxHeartbeats 2000000 in
theorem refreadint_small (gA oA : Nat) (b : UInt8) (w : World) (hlA : gA < w.heap.size) (q0 : w.cell? ⟨gA, oA, none⟩ = some (.int .u8 (b.toNat : Int))) (hr : RdB w (some ⟨gA, oA, none⟩) [b]) (hb1 : ¬ 1 < b.toNat) :
    Calls Tryd.prog 10 #[.agg #[.slice (some ⟨gA, oA, none⟩) 1 1, .int .i64 0]] w (RefP (some ⟨gA, oA, none⟩) (intR [b] 0).1 (intR [b] 0).2.1 (.int .i64 (intR [b] 0).2.2) w) := by
        have HR := Lib.hid hr
        clear hr
        have HB1 := Lib.hid hb1
        have hb1' : ¬ (1 : Int) < (b.toNat : Int) := by omega
        have hbnd : bnd 9223372036854775807 4 0 [] = ([], 12, 0) := by decide +kernel
        have eI : intR [b] 0 = ([b], 12, 0) := by
          unfold intR
          rw [if_neg (by simp)]
          simp only [if_neg HB1.out, hbnd]
          rfl
        rw [eI]
        have eu : uintR 9223372036854775807 [] 0 = ([], 12, 0) := by unfold uintR; rw [if_neg (by simp), hbnd]
        have EU := Lib.hid eu
        clear hbnd hb1 eI eu
        go_enter Tryd.func10, Tryd.ntmps10
        go_wp2_with fail
        all_goals
          refine Calls.mono (refreaduint_any _ [] _ 0 _ (by simp) (by simp) (RdB.nil _ _) 9223372036854775807) ?_
          rw [EU.out]
          rintro en w2 ⟨A2, c2, l2, hl2, rfl, hr2, hc2, hk2, hb2⟩
          clear hr2 hb2
          have hb0 : w2.heap[w.heap.size]? = some (.cells #[.slice (some ⟨gA, oA, none⟩) 1 1, .int .i64 0] 29 (0, 0)) := (hk2.block w.heap.size (by simp; omega) (by simp)).trans ((Below.heap_alloc _ _ _ (by simp)).trans (heap_alloc_new _ _))
          have hb1 : w2.heap[w.heap.size + 1]? = some (.cells #[.slice none 0 0, .int .i64 0] 29 (0, 0)) := (hk2.block (w.heap.size + 1) (by simp) (by simp)).trans (two_new _ _ _)
          have b0 : w2.cell? ⟨w.heap.size, 0, none⟩ = some (.slice (some ⟨gA, oA, none⟩) 1 1) := by rw [cell_of_row _ _ _ _ _ _ hb0]; rfl
          have b1 : w2.cell? ⟨w.heap.size, 1, none⟩ = some (.int .i64 0) := by rw [cell_of_row _ _ _ _ _ _ hb0]; rfl
          have b2 : w2.cell? ⟨w.heap.size + 1, 0, none⟩ = some (.slice none 0 0) := by rw [cell_of_row _ _ _ _ _ _ hb1]; rfl
          have b3 : w2.cell? ⟨w.heap.size + 1, 1, none⟩ = some (.int .i64 0) := by rw [cell_of_row _ _ _ _ _ _ hb1]; rfl
          have f0 : w2.frozen? ⟨w.heap.size, 0, none⟩ = false := frozen_of_row w2 _ 0 _ _ hb0
          have f1 : w2.frozen? ⟨w.heap.size, 1, none⟩ = false := frozen_of_row w2 _ 1 _ _ hb0
          have f2 : w2.frozen? ⟨w.heap.size + 1, 0, none⟩ = false := frozen_of_row w2 _ 0 _ _ hb1
          have f3 : w2.frozen? ⟨w.heap.size + 1, 1, none⟩ = false := frozen_of_row w2 _ 1 _ _ hb1
          have z2 : w.heap.size + 2 ≤ w2.heap.size := by have := hk2.size; simp at this; omega
          have K2 := Lib.hid ((((Keeps.refl [] w).alloc _).alloc _).trans hk2 (by simp))
          clear hk2 hb0 hb1
          have q2 := K2.out.cell q0 (by simp)
          have hg2 : gA < w2.heap.size := by omega
          have n0 : w.heap.size < w2.heap.size := by omega
          have n1 : w.heap.size + 1 < w2.heap.size := by omega
          clear z2 q0
          go_wp2_with fail
          refine (reffail_any _ _ _ 0 12 _).mono ?_
          rintro en w3 ⟨rfl, hk3⟩
          rw [if_pos rfl]
          have hk3' : Keeps [] w2 w3 := ((Keeps.refl [] w2).alloc (.cells #[.slice A2 l2.length c2, .int .i64 12] 29)).trans hk3 (by simp)
          have b2' := hk3'.cell b2 (by simp)
          have b3' := hk3'.cell b3 (by simp)
          have f2' := hk3'.frozen f2 b2 (by simp)
          have f3' := hk3'.frozen f3 b3 (by simp)
          have K3 := Lib.hid (K2.out.trans hk3' (by simp))
          clear hk3'
          clear hk3 b0 b1 b2 b3 f0 f1 f2 f3
          go_wp2_with fail
          refine bodyPost_ret (v := .tuple #[.agg #[.slice (some ⟨gA, oA, none⟩) 1 1, .int .i64 12], .int .i64 0]) (by simp [results, Tryd.results10, go_sem, b2', b3']) rfl ⟨some ⟨gA, oA, none⟩, 1, [b], rfl, rfl, HR.out.keeps0 ?_, by simp, ?_, fun a ha => mem_blk.2 ⟨a, ha, rfl⟩⟩
          all_goals repeat (first | exact K3.out | refine Keeps.setCell ?_ (.inr (by simp)) _)
theorem refreadint_main (gA oA : Nat) (b : UInt8) (t : List UInt8) (c : Nat) (w : World) (h64 : t.length + 1 ≤ 140737488351232) (hcl' : t.length + 1 ≤ c) (hlA : gA < w.heap.size) (q0 : w.cell? ⟨gA, oA, none⟩ = some (.int .u8 (b.toNat : Int))) (hr : RdB w (some ⟨gA, oA, none⟩) (b :: t)) (hb1 : ¬ 1 < b.toNat) :
    Calls Tryd.prog 10 #[.agg #[.slice (some ⟨gA, oA, none⟩) (t.length + 1) c, .int .i64 0]] w (RefP (some ⟨gA, oA, none⟩) (intR (b :: t) 0).1 (intR (b :: t) 0).2.1 (.int .i64 (intR (b :: t) 0).2.2) w) := by
  by_cases hc1 : c = 1
  · subst hc1
    obtain rfl : t = [] := List.eq_nil_of_length_eq_zero (by omega)
    exact refreadint_small gA oA b w hlA q0 hr hb1
  · exact refreadint_big gA oA b t c w h64 hcl' hc1 hlA q0 hr hb1

set_option maxHeartbeats 2000000 in
theorem refreadint_any (A : Option Addr) (l : List UInt8) (c : Nat) (e : Int) (w : World) (hl : l.length ≤ 140737488351232) (hcl : l.length ≤ c) (hr : RdB w A l) :
    Calls Tryd.prog 10 #[.agg #[.slice A l.length c, .int .i64 e]] w (RefP A (intR l e).1 (intR l e).2.1 (.int .i64 (intR l e).2.2) w) := by
  have HR := Lib.hid hr
  by_cases he : e = 0
  · subst he
    rcases l with _ | ⟨b, t⟩
    · have e1 : intR [] 0 = ([], 12, 0) := rfl
      rw [e1]
      clear hr
      go_enter Tryd.func10, Tryd.ntmps10
      go_wp2_with fail
      refine (reffail_any _ _ _ 0 12 _).mono ?_
      rintro en w2 ⟨rfl, hk2⟩
      rw [if_pos rfl]
      have hb0 : w2.heap[w.heap.size]? = some (.cells #[.slice A 0 c, .int .i64 0] 29 (0, 0)) := (hk2.block w.heap.size (by simp; omega) (by simp)).trans ((Below.heap_alloc _ _ _ (by simp)).trans (heap_alloc_new _ _))
      have hb1 : w2.heap[w.heap.size + 1]? = some (.cells #[.slice none 0 0, .int .i64 0] 29 (0, 0)) := (hk2.block (w.heap.size + 1) (by simp) (by simp)).trans (two_new _ _ _)
      have b0 : w2.cell? ⟨w.heap.size, 0, none⟩ = some (.slice A 0 c) := by rw [cell_of_row _ _ _ _ _ _ hb0]; rfl
      have b1 : w2.cell? ⟨w.heap.size, 1, none⟩ = some (.int .i64 0) := by rw [cell_of_row _ _ _ _ _ _ hb0]; rfl
      have b2 : w2.cell? ⟨w.heap.size + 1, 0, none⟩ = some (.slice none 0 0) := by rw [cell_of_row _ _ _ _ _ _ hb1]; rfl
      have b3 : w2.cell? ⟨w.heap.size + 1, 1, none⟩ = some (.int .i64 0) := by rw [cell_of_row _ _ _ _ _ _ hb1]; rfl
      have f0 : w2.frozen? ⟨w.heap.size, 0, none⟩ = false := frozen_of_row w2 _ 0 _ _ hb0
      have f1 : w2.frozen? ⟨w.heap.size, 1, none⟩ = false := frozen_of_row w2 _ 1 _ _ hb0
      have f2 : w2.frozen? ⟨w.heap.size + 1, 0, none⟩ = false := frozen_of_row w2 _ 0 _ _ hb1
      have f3 : w2.frozen? ⟨w.heap.size + 1, 1, none⟩ = false := frozen_of_row w2 _ 1 _ _ hb1
      have z2 : w.heap.size + 2 ≤ w2.heap.size := by have := hk2.size; simp at this; omega
      have K2 := Lib.hid ((((Keeps.refl [] w).alloc _).alloc _).trans hk2 (by simp))
      clear hk2 hb0 hb1
      go_wp2_with fail
      refine bodyPost_ret (v := .tuple #[.agg #[.slice A 0 c, .int .i64 12], .int .i64 0]) (by simp [results, Tryd.results10, go_sem, b2, b3]) rfl ⟨A, c, [], rfl, rfl, HR.out.keeps0 ?_, by simp, ?_, fun a ha => mem_blk.2 ⟨a, ha, rfl⟩⟩
      all_goals repeat (first | exact K2.out | refine Keeps.setCell ?_ (.inr (by simp)) _)
    · obtain ⟨gA, oA, rfl, hcell⟩ := hr.form (by simp)
      have q0 : w.cell? ⟨gA, oA, none⟩ = some (.int .u8 (b.toNat : Int)) := hcell 0 (by simp)
      have hlA : gA < w.heap.size := by have := block_lt_of_cell q0; exact this
      have hcl' : t.length + 1 ≤ c := by simpa using hcl
      have h64 : t.length + 1 ≤ 140737488351232 := by simpa using hl
      have i1 : (1 : Int) ≤ (t.length : Int) + 1 := by omega
      have i2 : (1 : Int) ≤ (c : Int) := by omega
      have hlen : (b :: t).length = t.length + 1 := rfl
      rw [hlen]
      clear hr hcell hl
      by_cases hb1 : 1 < b.toNat
      · have e1 : intR (b :: t) 0 = (b :: t, 3, 0) := by unfold intR; rw [if_neg (by simp)]; simp only [if_pos hb1]
        rw [e1]
        have hb1' : (1 : Int) < (b.toNat : Int) := by omega
        clear hb1 e1
        go_enter Tryd.func10, Tryd.ntmps10
        go_wp2_with fail
        refine (reffail_any _ _ _ 0 3 _).mono ?_
        rintro en w2 ⟨rfl, hk2⟩
        rw [if_pos rfl]
        have hb0 : w2.heap[w.heap.size]? = some (.cells #[.slice (some ⟨gA, oA, none⟩) (t.length + 1) c, .int .i64 0] 29 (0, 0)) := (hk2.block w.heap.size (by simp; omega) (by simp)).trans ((Below.heap_alloc _ _ _ (by simp)).trans (heap_alloc_new _ _))
        have hb1 : w2.heap[w.heap.size + 1]? = some (.cells #[.slice none 0 0, .int .i64 0] 29 (0, 0)) := (hk2.block (w.heap.size + 1) (by simp) (by simp)).trans (two_new _ _ _)
        have b0 : w2.cell? ⟨w.heap.size, 0, none⟩ = some (.slice (some ⟨gA, oA, none⟩) (t.length + 1) c) := by rw [cell_of_row _ _ _ _ _ _ hb0]; rfl
        have b1 : w2.cell? ⟨w.heap.size, 1, none⟩ = some (.int .i64 0) := by rw [cell_of_row _ _ _ _ _ _ hb0]; rfl
        have b2 : w2.cell? ⟨w.heap.size + 1, 0, none⟩ = some (.slice none 0 0) := by rw [cell_of_row _ _ _ _ _ _ hb1]; rfl
        have b3 : w2.cell? ⟨w.heap.size + 1, 1, none⟩ = some (.int .i64 0) := by rw [cell_of_row _ _ _ _ _ _ hb1]; rfl
        have f0 : w2.frozen? ⟨w.heap.size, 0, none⟩ = false := frozen_of_row w2 _ 0 _ _ hb0
        have f1 : w2.frozen? ⟨w.heap.size, 1, none⟩ = false := frozen_of_row w2 _ 1 _ _ hb0
        have f2 : w2.frozen? ⟨w.heap.size + 1, 0, none⟩ = false := frozen_of_row w2 _ 0 _ _ hb1
        have f3 : w2.frozen? ⟨w.heap.size + 1, 1, none⟩ = false := frozen_of_row w2 _ 1 _ _ hb1
        have z2 : w.heap.size + 2 ≤ w2.heap.size := by have := hk2.size; simp at this; omega
        have K2 := Lib.hid ((((Keeps.refl [] w).alloc _).alloc _).trans hk2 (by simp))
        clear hk2 hb0 hb1
        go_wp2_with fail
        refine bodyPost_ret (v := .tuple #[.agg #[.slice (some ⟨gA, oA, none⟩) (t.length + 1) c, .int .i64 3], .int .i64 0]) (by simp [results, Tryd.results10, go_sem, b2, b3]) rfl ⟨some ⟨gA, oA, none⟩, c, b :: t, rfl, rfl, HR.out.keeps0 ?_, by simpa using hcl, ?_, fun a ha => mem_blk.2 ⟨a, ha, rfl⟩⟩
        all_goals repeat (first | exact K2.out | refine Keeps.setCell ?_ (.inr (by simp)) _)
      · exact refreadint_main gA oA b t c w h64 hcl' hlA q0 HR.out hb1
  · have e1 : intR l e = (l, e, 0) := by unfold intR; rw [if_pos he]
    rw [e1]
    clear hr
    go_enter Tryd.func10, Tryd.ntmps10
    go_wp2_with fail
    refine bodyPost_ret (v := .tuple #[.agg #[.slice A l.length c, .int .i64 e], .int .i64 0]) (by simp [results, Tryd.results10, go_sem]) rfl ⟨A, c, l, rfl, rfl, HR.out.keeps0 ?_, hcl, ?_, fun a ha => mem_blk.2 ⟨a, ha, rfl⟩⟩
    all_goals repeat (first | exact Keeps.refl [] w | refine Keeps.setCell ?_ (.inr (by simp)) _ | refine Keeps.alloc ?_ _)
end Go.Proofs.YtficgbeolmdbiaaDoor
