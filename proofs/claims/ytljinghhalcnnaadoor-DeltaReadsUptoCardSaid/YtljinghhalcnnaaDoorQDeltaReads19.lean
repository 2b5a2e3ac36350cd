/- Counts and truths that the document takes off: contracts. Truths that the document takes off: a contract. The document's parts of bytes: the walk. -/
import Derived.Test.YtljinghhalcnnaaDoorQDeltaReads18
import Derived.Test.YtljinghhalcnnaaDoorQDeltaReads10
import Derived.Deep.DeepCutAuto
import Derived.Test.YtljinghhalcnnaaDoorQDeltaReads16
import Derived.Test.YtljinghhalcnnaaDoorQDeltaReads13
namespace Go.Proofs.YtljinghhalcnnaaDoor
open Go.RowKit

theorem count_of (m : Nat) (l : List UInt8) (e : Int) : countR m l e = if (uintR m l e).2.1 ≠ 0 then (l, (uintR m l e).2.1, 0) else if (uintR m l e).1.length < (uintR m l e).2.2 then (l, 2, 0) else uintR m l e := by
  unfold countR uintR
  by_cases he : e ≠ 0
  · rw [if_pos he, if_pos he, if_pos he]
  · rw [if_neg he, if_neg he]
    unfold bnd
    by_cases h1 : (numB l).2.2 ≠ 0
    · rw [if_pos h1, if_pos h1, if_pos h1]
    · rw [if_neg h1, if_neg h1]
      by_cases h2 : m < (numB l).1
      · have h2' : ((m : Nat) : Int).toNat < (numB l).1 := h2
        rw [if_pos h2', if_pos h2, if_pos (by simp)]
      · have h2' : ¬ ((m : Nat) : Int).toNat < (numB l).1 := h2
        rw [if_neg h2', if_neg h2, if_neg (show ¬ (l.length - (numB l).2.1 < (numB l).1 ∧ (0 : Int) ≠ 0) from fun h => h.2 rfl), if_neg (show ¬ ((0 : Int) ≠ 0) by simp)]
        by_cases h3 : l.length - (numB l).2.1 < (numB l).1
        · rw [if_pos ⟨h3, by decide⟩, if_pos (by simp only [List.length_drop]; exact h3)]
        · rw [if_neg (fun h => h3 h.1), if_neg (by simp only [List.length_drop]; exact h3)]
set_option maxHeartbeats 4000000 in
theorem refreadcount_any (A : Option Addr) (l : List UInt8) (c : Nat) (e : Int) (w : World) (hl : l.length ≤ 140737488351232) (hcl : l.length ≤ c) (hr : RdB w A l) (m : Nat) (hm : m ≤ 9223372036854775807) :
    Calls Tryd.prog 25 #[.agg #[.slice A l.length c, .int .i64 e], .int .i64 m] w (RefP A (countR m l e).1 (countR m l e).2.1 (.int .i64 ((countR m l e).2.2 : Nat)) w) := by
  have HR := Lib.hid hr
  have HU := Lib.hid (count_of m l e)
  have f9 : IntKind.u64.wrap (m : Int) = (m : Int) := by rw [IntKind.wrap_u64]; omega
  have h0 : ¬ (m : Int) < 0 := by omega
  clear hr
  go_enter Tryd.func25, Tryd.ntmps25
  go_wp2_with fail
  refine (refreaduint_any A l c e _ hl hcl ((HR.out.alloc _).alloc _) m).mono ?_
  rintro en w2 ⟨A', c', l', hl', rfl, hr', hc', hk2, hb'⟩
  obtain ⟨er, her⟩ : ∃ er, er = (uintR m l e).2.1 := ⟨_, rfl⟩
  obtain ⟨n, hn⟩ : ∃ n, n = (uintR m l e).2.2 := ⟨_, rfl⟩
  rw [← her, ← hn] at HU
  rw [← her, ← hn]
  have HL := Lib.hid (show l' = (uintR m l e).1 ∧ RdB w2 A' l' ∧ l'.length ≤ c' ∧ (∀ a, A' = some a → a.block ∈ blk A) ∧ er = (uintR m l e).2.1 ∧ n = (uintR m l e).2.2 ∧ (er ≠ 0 ∨ n ≤ m) ∧ (e ≠ 0 → er = e) ∧ l'.length ≤ l.length from
    ⟨hl'.out, hr', hc', hb', her, hn, by
      by_cases h1 : er = 0
      · right
        rw [hn]
        rw [her] at h1
        unfold uintR at h1 ⊢
        by_cases h2 : e ≠ 0
        · rw [if_pos h2]; exact Nat.zero_le _
        · rw [if_neg h2] at h1 ⊢
          exact (bnd_ok (by decide) h1).1
      · exact .inl h1, fun h1 => by rw [her]; unfold uintR; rw [if_pos h1], by
      rw [hl'.out]
      unfold uintR
      split
      · exact Nat.le_refl _
      · unfold bnd
        repeat' split
        all_goals first | exact Nat.le_refl _ | (simp only [List.length_drop]; omega)⟩)
  obtain ⟨k, hk⟩ : ∃ k, k = l'.length := ⟨_, rfl⟩
  have HK := Lib.hid hk
  have hk47 : k ≤ 140737488351232 := by rw [hk]; exact Nat.le_trans HL.out.2.2.2.2.2.2.2.2 hl
  rw [← hk]
  obtain ⟨w3, hw3⟩ : ∃ w3, w3 = w2.alloc (.cells #[.slice A' k c', .int .i64 er] 60) := ⟨_, rfl⟩
  obtain ⟨g6, hg6⟩ : ∃ g6, g6 = w2.heap.size := ⟨_, rfl⟩
  have hk23 : Keeps [] w2 w3 := by rw [hw3]; exact (Keeps.refl [] w2).alloc _
  have hb0 : w3.heap[w.heap.size]? = some (.cells #[.slice A l.length c, .int .i64 e] 60 (0, 0)) := (hk23.block w.heap.size (by have := hk2.size; simp at this; omega) (by simp)).trans ((hk2.block w.heap.size (by simp; omega) (by simp)).trans ((Below.heap_alloc _ _ _ (by simp)).trans (heap_alloc_new _ _)))
  have hb1 : w3.heap[w.heap.size + 1]? = some (.cells #[.slice none 0 0, .int .i64 0] 60 (0, 0)) := (hk23.block (w.heap.size + 1) (by have := hk2.size; simp at this; omega) (by simp)).trans ((hk2.block (w.heap.size + 1) (by simp) (by simp)).trans (two_new _ _ _))
  have hb6 : w3.heap[g6]? = some (.cells #[.slice A' k c', .int .i64 er] 60 (0, 0)) := by rw [hw3, hg6]; exact heap_alloc_new _ _
  have b0 : w3.cell? ⟨w.heap.size, 0, none⟩ = some (.slice A l.length c) := by rw [cell_of_row _ _ _ _ _ _ hb0]; rfl
  have b1 : w3.cell? ⟨w.heap.size, 1, none⟩ = some (.int .i64 e) := by rw [cell_of_row _ _ _ _ _ _ hb0]; rfl
  have b2 : w3.cell? ⟨w.heap.size + 1, 0, none⟩ = some (.slice none 0 0) := by rw [cell_of_row _ _ _ _ _ _ hb1]; rfl
  have b3 : w3.cell? ⟨w.heap.size + 1, 1, none⟩ = some (.int .i64 0) := by rw [cell_of_row _ _ _ _ _ _ hb1]; rfl
  have b4 : w3.cell? ⟨g6, 0, none⟩ = some (.slice A' k c') := by rw [cell_of_row _ _ _ _ _ _ hb6]; rfl
  have b5 : w3.cell? ⟨g6, 1, none⟩ = some (.int .i64 er) := by rw [cell_of_row _ _ _ _ _ _ hb6]; rfl
  have f2 : w3.frozen? ⟨w.heap.size + 1, 0, none⟩ = false := frozen_of_row w3 _ 0 _ _ hb1
  have f3 : w3.frozen? ⟨w.heap.size + 1, 1, none⟩ = false := frozen_of_row w3 _ 1 _ _ hb1
  have K2 := Lib.hid (show Keeps [] w w3 ∧ Keeps [] w2 w3 from ⟨(((Keeps.refl [] w).alloc _).alloc _).trans (hk2.trans hk23 (by simp)) (by simp), hk23⟩)
  have HW := Lib.hid (And.intro hw3 hg6)
  clear hw3 hg6 hk23 hb6 hk
  clear hl' hr' hc' hb' hk2 hb0 hb1 her hn
  go_upto_region 4 with fail
  rw [← HW.out.1, ← HW.out.2]
  by_cases h1 : er = 0
  · subst h1
    have e0 : e = 0 := by
      by_cases h2 : e = 0
      · exact h2
      · exact (HL.out.2.2.2.2.2.2.2.1 h2).symm
    subst e0
    have hnm : n ≤ m := by rcases HL.out.2.2.2.2.2.2.1 with h2 | h2; exact absurd rfl h2; exact h2
    have HU2 := Lib.hid (show countR m l 0 = if l'.length < n then (l, 2, 0) else (l', 0, n) from by
      rw [HU.out, if_neg (by simp), ← HL.out.1]
      split
      · rfl
      · exact Prod.ext HL.out.1.symm (Prod.ext HL.out.2.2.2.2.1.symm HL.out.2.2.2.2.2.1.symm))
    have f8 : IntKind.u64.wrap (k : Int) = (k : Int) := by rw [IntKind.wrap_u64]; omega
    have f7 : IntKind.i64.wrap (n : Int) = (n : Int) := by rw [IntKind.wrap_i64]; omega
    by_cases h3 : k < n
    · have h3i : (k : Int) < (n : Int) := by omega
      have E := Lib.hid (show countR m l 0 = (l, 2, 0) from by rw [HU2.out, if_pos (by rw [← HK.out]; exact h3)])
      clear h3
      go_wp2_with fail
      refine (reffail_any _ _ _ 0 2 _).mono ?_
      rintro en w4 ⟨rfl, hk3⟩
      rw [if_pos rfl]
      have hk23 : Keeps [] w3 w4 := hk3
      have b2' := hk23.cell b2 (by simp)
      have b3' := hk23.cell b3 (by simp)
      have f2' := hk23.frozen f2 b2 (by simp)
      have f3' := hk23.frozen f3 b3 (by simp)
      have K3 := Lib.hid (K2.out.1.trans hk23 (by simp))
      clear hk3 hk23 b0 b1 b2 b3 b4 b5 f2 f3
      go_wp2_with fail
      rw [E.out]
      refine bodyPost_ret (v := .tuple #[.agg #[.slice A l.length c, .int .i64 2], .int .i64 0]) (by simp [results, Tryd.results25, go_sem, b2', b3']) rfl ⟨A, c, l, rfl, rfl, HR.out.keeps0 ?_, hcl, ?_, fun a ha => mem_blk.2 ⟨a, ha, rfl⟩⟩
      all_goals repeat (first | exact K3.out | refine Keeps.setCell ?_ (.inr (by simp)) _)
    · have h3i : ¬ (k : Int) < (n : Int) := by omega
      have E := Lib.hid (show countR m l 0 = (l', 0, n) from by rw [HU2.out, if_neg (by rw [← HK.out]; exact h3)])
      clear h3
      go_wp2_with fail
      rw [E.out]
      refine bodyPost_ret (v := .tuple #[.agg #[.slice A' k c', .int .i64 0], .int .i64 (n : Nat)]) (by simp [results, Tryd.results25, go_sem, b2, b3]) rfl ⟨A', c', l', rfl, by rw [← HK.out], RdB.keeps (S := [w.heap.size + 1]) HL.out.2.1 ?_ (fun a ha hp => ?_), HL.out.2.2.1, ?_, HL.out.2.2.2.1⟩
      · repeat (first | exact K2.out.2.mono (by simp) | refine Keeps.setCell ?_ (.inl (by simp)) _ | refine Keeps.alloc ?_ _)
      · obtain ⟨b, e1, e2⟩ := mem_blk.1 (HL.out.2.2.2.1 a ha)
        have h5 := Rd.lt HR.out (by rw [length_encB]; have := HL.out.2.2.2.2.2.2.2.2; omega) e1
        simp only [List.mem_singleton]
        omega
      · repeat (first | exact K2.out.1 | refine Keeps.setCell ?_ (.inr (by simp)) _ | refine Keeps.alloc ?_ _)
  · have h1b : (er != 0) = true := by simpa using h1
    have E := Lib.hid (show countR m l e = (l, er, 0) from by rw [HU.out, if_pos h1])
    have H1 := Lib.hid h1
    go_wp2_with fail
    refine (reffail_any _ _ _ e er _).mono ?_
    rintro en w4 ⟨rfl, hk3⟩
    rw [show (if e = 0 then er else e) = er from by split; rfl; rename_i h2; exact (HL.out.2.2.2.2.2.2.2.1 h2).symm]
    have hk23 : Keeps [] w3 w4 := hk3
    have b2' := hk23.cell b2 (by simp)
    have b3' := hk23.cell b3 (by simp)
    have f2' := hk23.frozen f2 b2 (by simp)
    have f3' := hk23.frozen f3 b3 (by simp)
    have K3 := Lib.hid (K2.out.1.trans hk23 (by simp))
    clear hk3 hk23 b0 b1 b2 b3 b4 b5 f2 f3
    go_wp2_with fail
    rw [E.out]
    refine bodyPost_ret (v := .tuple #[.agg #[.slice A l.length c, .int .i64 er], .int .i64 0]) (by simp [results, Tryd.results25, go_sem, b2', b3']) rfl ⟨A, c, l, rfl, rfl, HR.out.keeps0 ?_, hcl, ?_, fun a ha => mem_blk.2 ⟨a, ha, rfl⟩⟩
    all_goals repeat (first | exact K3.out | refine Keeps.setCell ?_ (.inr (by simp)) _)
end Go.Proofs.YtljinghhalcnnaaDoor
namespace Go.Proofs.YtljinghhalcnnaaDoor
open Go.RowKit

set_option maxHeartbeats 4000000 in
theorem refreadbool_any (A : Option Addr) (l : List UInt8) (c : Nat) (e : Int) (w : World) (hl : l.length ≤ 140737488351232) (hcl : l.length ≤ c) (hr : RdB w A l) :
    Calls Tryd.prog 26 #[.agg #[.slice A l.length c, .int .i64 e]] w (RefP A (boolR l e).1 (boolR l e).2.1 (.bool (boolR l e).2.2) w) := by
  have HR := Lib.hid hr
  clear hr
  by_cases he : e = 0
  · subst he
    obtain ⟨W, hW⟩ : ∃ W, W = (w.alloc (.cells #[.slice A l.length c, .int .i64 0] 60)).alloc (.cells #[.slice none 0 0, .int .i64 0] 60) := ⟨_, rfl⟩
    have KW := Lib.hid (show Keeps [] w W from by rw [hW]; exact ((Keeps.refl [] w).alloc _).alloc _)
    have hb0 : W.heap[w.heap.size]? = some (.cells #[.slice A l.length c, .int .i64 0] 60 (0, 0)) := by rw [hW]; exact (Below.heap_alloc _ _ _ (by simp)).trans (heap_alloc_new _ _)
    have hb1 : W.heap[w.heap.size + 1]? = some (.cells #[.slice none 0 0, .int .i64 0] 60 (0, 0)) := by rw [hW]; exact two_new _ _ _
    have b0 : W.cell? ⟨w.heap.size, 0, none⟩ = some (.slice A l.length c) := by rw [cell_of_row _ _ _ _ _ _ hb0]; rfl
    have b1 : W.cell? ⟨w.heap.size, 1, none⟩ = some (.int .i64 0) := by rw [cell_of_row _ _ _ _ _ _ hb0]; rfl
    have b2 : W.cell? ⟨w.heap.size + 1, 0, none⟩ = some (.slice none 0 0) := by rw [cell_of_row _ _ _ _ _ _ hb1]; rfl
    have b3 : W.cell? ⟨w.heap.size + 1, 1, none⟩ = some (.int .i64 0) := by rw [cell_of_row _ _ _ _ _ _ hb1]; rfl
    have f0 : W.frozen? ⟨w.heap.size, 0, none⟩ = false := frozen_of_row W _ 0 _ _ hb0
    have f1 : W.frozen? ⟨w.heap.size, 1, none⟩ = false := frozen_of_row W _ 1 _ _ hb0
    have f2 : W.frozen? ⟨w.heap.size + 1, 0, none⟩ = false := frozen_of_row W _ 0 _ _ hb1
    have f3 : W.frozen? ⟨w.heap.size + 1, 1, none⟩ = false := frozen_of_row W _ 1 _ _ hb1
    have HW := Lib.hid hW
    clear hW hb0 hb1
    cases l with
    | nil =>
      have E := Lib.hid (show boolR [] 0 = ([], 12, false) from rfl)
      have h0 : ([] : List UInt8).length = 0 := rfl
      rw [h0] at b0 HW ⊢
      clear h0
      go_enter Tryd.func26, Tryd.ntmps26
      go_upto_region 1 with fail
      rw [← HW.out]
      go_wp2_with fail
      refine (reffail_any _ _ _ 0 12 _).mono ?_
      rintro en w3 ⟨rfl, hk3⟩
      rw [if_pos rfl]
      have b2' := hk3.cell b2 (by simp)
      have b3' := hk3.cell b3 (by simp)
      have f2' := hk3.frozen f2 b2 (by simp)
      have f3' := hk3.frozen f3 b3 (by simp)
      have K3 := Lib.hid (KW.out.trans hk3 (by simp))
      clear hk3 b0 b1 b2 b3 f0 f1 f2 f3
      go_wp2_with fail
      rw [E.out]
      refine bodyPost_ret (v := .tuple #[.agg #[.slice A 0 c, .int .i64 12], .bool false]) (by simp [results, Tryd.results26, go_sem, b2', b3']) rfl ⟨A, c, [], rfl, rfl, RdB.keeps0 HR.out ?_, hcl, ?_, fun a ha => mem_blk.2 ⟨a, ha, rfl⟩⟩
      all_goals repeat (first | exact K3.out | refine Keeps.setCell ?_ (.inr (by simp)) _)
    | cons b t =>
      obtain ⟨gA, oA, rfl, hcell⟩ := HR.out.form (by simp)
      have q0 : W.cell? ⟨gA, oA, none⟩ = some (.int .u8 (b.toNat : Int)) := KW.out.cell (hcell 0 (by simp)) (by simp)
      have hbl := b.toNat_lt
      obtain ⟨k, hk⟩ : ∃ k, k = (b :: t).length := ⟨_, rfl⟩
      have HK := Lib.hid (show k = (b :: t).length ∧ k = t.length + 1 from ⟨hk, hk⟩)
      have hk1 : 1 ≤ k := by have := HK.out.2; omega
      have hk2 : ¬ (k : Int) = 0 := by omega
      have hk3 : ((k : Int) == 0) = false := beq_eq_false_iff_ne.2 hk2
      rw [← hk] at b0 HW hcl hl ⊢
      clear hk hcell
      by_cases hb : 1 < b.toNat
      · have hbi : (1 : Int) < (b.toNat : Int) := by omega
        have E := Lib.hid (show boolR (b :: t) 0 = (b :: t, 3, false) from by unfold boolR; rw [if_neg (by simp)]; simp only; rw [if_pos hb])
        clear hb
        go_enter Tryd.func26, Tryd.ntmps26
        go_upto_region 1 with fail
        rw [← HW.out]
        go_wp2_with fail
        refine (reffail_any _ _ _ 0 3 _).mono ?_
        rintro en w3 ⟨rfl, hk3⟩
        rw [if_pos rfl]
        have b2' := hk3.cell b2 (by simp)
        have b3' := hk3.cell b3 (by simp)
        have f2' := hk3.frozen f2 b2 (by simp)
        have f3' := hk3.frozen f3 b3 (by simp)
        have K3 := Lib.hid (KW.out.trans hk3 (by simp))
        clear hk3 b0 b1 b2 b3 f0 f1 f2 f3
        go_wp2_with fail
        rw [E.out]
        refine bodyPost_ret (v := .tuple #[.agg #[.slice (some ⟨gA, oA, none⟩) k c, .int .i64 3], .bool false]) (by simp [results, Tryd.results26, go_sem, b2', b3']) rfl ⟨some ⟨gA, oA, none⟩, c, b :: t, rfl, by rw [← HK.out.1], RdB.keeps0 HR.out ?_, by rw [← HK.out.1]; exact hcl, ?_, fun a ha => mem_blk.2 ⟨a, ha, rfl⟩⟩
        all_goals repeat (first | exact K3.out | refine Keeps.setCell ?_ (.inr (by simp)) _)
      · have hbi : ¬ (1 : Int) < (b.toNat : Int) := by omega
        have E := Lib.hid (show boolR (b :: t) 0 = (t, 0, decide (b.toNat = 1)) from by unfold boolR; rw [if_neg (by simp)]; simp only; rw [if_neg hb])
        have kc : (k : Int) ≤ (c : Int) := by omega
        have k1 : (1 : Int) ≤ (k : Int) := by omega
        have c1 : (1 : Int) ≤ (c : Int) := by omega
        obtain ⟨v, hv⟩ : ∃ v : Bool, v = decide (b.toNat = 1) := ⟨_, rfl⟩
        have hvi : ((b.toNat : Int) == 1) = v := by
          rw [hv]
          by_cases h1 : b.toNat = 1
          · rw [h1]; rfl
          · rw [decide_eq_false h1, beq_eq_false_iff_ne]; omega
        have HV := Lib.hid hv
        clear hb hv
        go_enter Tryd.func26, Tryd.ntmps26
        go_upto_region 1 with fail
        rw [← HW.out]
        go_wp2_with fail
        all_goals
          rw [E.out, ← HV.out]
          refine bodyPost_ret (v := .tuple #[.agg #[.slice _ (k - 1) _, .int .i64 0], .bool v]) (by simp [results, Tryd.results26, go_sem, b2, b3]; exact ⟨rfl, rfl⟩) rfl ⟨_, _, t, rfl, by rw [show k - 1 = t.length by have := HK.out.2; omega], RdB.keeps0 (by exact RdB.behind (l := b :: t) HR.out 1 (by have := HK.out; omega) _ (by intro hq; first | rfl | (exfalso; have := HK.out; omega))) ?_, by have := HK.out.2; omega, ?_, fun a ha => by rw [← Option.some.inj ha]; exact mem_blk.2 ⟨_, rfl, rfl⟩⟩
          all_goals repeat (first | exact KW.out | refine Keeps.setCell ?_ (.inr (by simp)) _)
  · have e1 : boolR l e = (l, e, false) := by unfold boolR; rw [if_pos he]
    rw [e1]
    go_enter Tryd.func26, Tryd.ntmps26
    go_wp2_with fail
    refine bodyPost_ret (v := .tuple #[.agg #[.slice A l.length c, .int .i64 e], .bool false]) (by simp [results, Tryd.results26, go_sem]) rfl ⟨A, c, l, rfl, rfl, HR.out.keeps0 ?_, hcl, ?_, fun a ha => mem_blk.2 ⟨a, ha, rfl⟩⟩
    all_goals repeat (first | exact Keeps.refl [] w | refine Keeps.setCell ?_ (.inr (by simp)) _ | refine Keeps.alloc ?_ _)
end Go.Proofs.YtljinghhalcnnaaDoor
namespace Go.Proofs.YtljinghhalcnnaaDoor
open Go.RowKit

/-- Parts whose row is one's own; their bytes are old. -/
structure OqI (w wr : World) (A : Option Addr) (c : Nat) (ts : List Pt) : Prop where
  own : wr.ownsRow 0 63 4 (.slice A ts.length c) ts.length (encPt ts)
  fr : ∀ a, A = some a → w.heap.size ≤ a.block
  rd : ∀ t ∈ ts, RdB wr t.A t.p.b ∧ ∀ a, t.A = some a → 0 < t.p.b.length → a.block < w.heap.size
  kp : Keeps [] w wr
/-- The reader, and the parts so far. -/
structure RqI (w wr : World) (g : Nat) (A3 : Option Addr) (c3 : Nat) (l : List UInt8) (e : Int) (A : Option Addr) (c : Nat) (ts : List Pt) : Prop where
  row : wr.heap[g]? = some (.cells #[.slice A3 l.length c3, .int .i64 e] 60 (0, 0))
  rd : RdB wr A3 l
  cap : l.length ≤ c3 ∧ l.length ≤ 140737488351232
  a3 : ∀ a, A3 = some a → 0 < l.length → a.block < w.heap.size
  op : OqI w wr A c ts
  g0 : w.heap.size ≤ g ∧ g ∉ blk A
theorem OqI.other {w wr wr' : World} {x : Nat} {A : Option Addr} {c : Nat} {ts : List Pt} (h : OqI w wr A c ts) (hk : Keeps [x] wr wr') (hx : w.heap.size ≤ x ∧ x ∉ blk A) : OqI w wr' A c ts := by
  refine ⟨ownsRow_keeps h.own hk (fun a ha => ?_), h.fr, fun t ht => ⟨(h.rd t ht).1.keeps hk (fun a ha hp => ?_), (h.rd t ht).2⟩, h.kp.trans hk (fun t ht => .inr (by simp at ht; omega))⟩
  · simp only [List.mem_singleton]
    exact fun e1 => hx.2 (mem_blk.2 ⟨a, ha, e1⟩)
  · have := (h.rd t ht).2 a ha hp
    simp only [List.mem_singleton]
    omega
theorem OqI.keeps0 {w wr wr' : World} {A : Option Addr} {c : Nat} {ts : List Pt} (h : OqI w wr A c ts) (hk : Keeps [] wr wr') : OqI w wr' A c ts :=
  ⟨ownsRow_keeps h.own hk (by simp), h.fr, fun t ht => ⟨(h.rd t ht).1.keeps0 hk, (h.rd t ht).2⟩, h.kp.trans hk (by simp)⟩
theorem RqI.keeps0 {w wr wr' : World} {g : Nat} {A3 : Option Addr} {c3 : Nat} {l : List UInt8} {e : Int} {A : Option Addr} {c : Nat} {ts : List Pt} (h : RqI w wr g A3 c3 l e A c ts) (hk : Keeps [] wr wr') : RqI w wr' g A3 c3 l e A c ts :=
  ⟨(hk.block g (lt_of_block h.row) (by simp)).trans h.row, h.rd.keeps0 hk, h.cap, h.a3, h.op.keeps0 hk, h.g0⟩
/-- Beside them a part that is being read. -/
structure RqT (w wr : World) (g gx : Nat) (A3 : Option Addr) (c3 : Nat) (l : List UInt8) (e : Int) (A : Option Addr) (c : Nat) (ts : List Pt) (vs : List Value) : Prop where
  d : RqI w wr g A3 c3 l e A c ts
  row : wr.heap[gx]? = some (.cells vs.toArray 63 (0, 0))
  gx0 : w.heap.size ≤ gx ∧ gx ∉ blk A ∧ gx ≠ g
theorem RqT.keeps0 {w wr wr' : World} {g gx : Nat} {A3 : Option Addr} {c3 : Nat} {l : List UInt8} {e : Int} {A : Option Addr} {c : Nat} {ts : List Pt} {vs : List Value} (h : RqT w wr g gx A3 c3 l e A c ts vs) (hk : Keeps [] wr wr') : RqT w wr' g gx A3 c3 l e A c ts vs :=
  ⟨h.d.keeps0 hk, (hk.block gx (lt_of_block h.row) (by simp)).trans h.row, h.gx0⟩
theorem RqT.c0 {w wr : World} {g gx : Nat} {A3 : Option Addr} {c3 : Nat} {l : List UInt8} {e : Int} {A : Option Addr} {c : Nat} {ts : List Pt} {vs : List Value} (h : RqT w wr g gx A3 c3 l e A c ts vs) : wr.cell? ⟨g, 0, none⟩ = some (.slice A3 l.length c3) ∧ wr.cell? ⟨g, 1, none⟩ = some (.int .i64 e) ∧ (∀ j, wr.frozen? ⟨g, j, none⟩ = false) ∧ (∀ j, wr.cell? ⟨gx, j, none⟩ = vs[j]?) ∧ ∀ j, wr.frozen? ⟨gx, j, none⟩ = false :=
  ⟨by rw [cell_of_row _ _ _ _ _ _ h.d.row]; rfl, by rw [cell_of_row _ _ _ _ _ _ h.d.row]; rfl, fun j => frozen_of_row wr g j _ _ h.d.row, fun j => by rw [cell_of_row _ _ _ _ _ _ h.row, List.getElem?_toArray], fun j => frozen_of_row wr gx j _ _ h.row⟩
/-- A call of the document's reader is laid into the variable. -/
theorem RqI.read {w wr w1 w2 : World} {g : Nat} {A3 A4 : Option Addr} {c3 c4 : Nat} {l l4 : List UInt8} {e e4 : Int} {A : Option Addr} {c : Nat} {ts : List Pt} (h : RqI w wr g A3 c3 l e A c ts)
    (hr : RdB w1 A4 l4) (hc : l4.length ≤ c4) (hk : Keeps [] wr w1) (hb : ∀ a, A4 = some a → a.block ∈ blk A3) (hl : l4.length ≤ l.length) (hw : w2 = (w1.setCell ⟨g, 0, none⟩ (.slice A4 l4.length c4)).setCell ⟨g, 1, none⟩ (.int .i64 e4)) : RqI w w2 g A4 c4 l4 e4 A c ts := by
  have h1 := h.keeps0 hk
  have hkk : Keeps [g] w1 w2 := by rw [hw]; exact ((Keeps.refl [g] w1).setCell (p := ⟨g, 0, none⟩) (.inl (by simp)) _).setCell (p := ⟨g, 1, none⟩) (.inl (by simp)) _
  have ha : ∀ a, A4 = some a → 0 < l4.length → a.block < w.heap.size := fun a ha hp => by
    obtain ⟨b, e1, e2⟩ := mem_blk.1 (hb a ha)
    rw [← e2]
    exact h.a3 b e1 (by omega)
  refine ⟨?_, hr.keeps hkk (fun a h2 hp => ?_), ⟨hc, by have := h.cap; omega⟩, ha, h1.op.other hkk h.g0, h.g0⟩
  · rw [hw, heap_setCell_same _ g 1 _ _ _ (heap_setCell_same _ g 0 _ _ _ h1.row)]
    rfl
  · have h3 := ha a h2 hp
    have h4 := h.g0.1
    simp only [List.mem_singleton]
    omega
theorem RqT.read {w wr w1 w2 : World} {g gx : Nat} {A3 A4 : Option Addr} {c3 c4 : Nat} {l l4 : List UInt8} {e e4 : Int} {A : Option Addr} {c : Nat} {ts : List Pt} {vs : List Value} (h : RqT w wr g gx A3 c3 l e A c ts vs)
    (hr : RdB w1 A4 l4) (hc : l4.length ≤ c4) (hk : Keeps [] wr w1) (hb : ∀ a, A4 = some a → a.block ∈ blk A3) (hl : l4.length ≤ l.length) (hw : w2 = (w1.setCell ⟨g, 0, none⟩ (.slice A4 l4.length c4)).setCell ⟨g, 1, none⟩ (.int .i64 e4)) : RqT w w2 g gx A4 c4 l4 e4 A c ts vs := by
  have h1 := h.keeps0 hk
  have hkk : Keeps [g] w1 w2 := by rw [hw]; exact ((Keeps.refl [g] w1).setCell (p := ⟨g, 0, none⟩) (.inl (by simp)) _).setCell (p := ⟨g, 1, none⟩) (.inl (by simp)) _
  exact ⟨h.d.read hr hc hk hb hl hw, (hkk.block gx (lt_of_block h1.row) (by simpa using h.gx0.2.2)).trans h1.row, h.gx0⟩
/-- A field of the part is laid. -/
theorem RqT.put {w wr w2 : World} {g gx i : Nat} {A3 : Option Addr} {c3 : Nat} {l : List UInt8} {e : Int} {A : Option Addr} {c : Nat} {ts : List Pt} {vs : List Value} {v : Value} (h : RqT w wr g gx A3 c3 l e A c ts vs) (hw : w2 = wr.setCell ⟨gx, i, none⟩ v) : RqT w w2 g gx A3 c3 l e A c ts (vs.set i v) := by
  have hkk : Keeps [gx] wr w2 := by rw [hw]; exact (Keeps.refl [gx] wr).setCell (p := ⟨gx, i, none⟩) (.inl (by simp)) _
  refine ⟨⟨(hkk.block g (lt_of_block h.d.row) (by simpa using Ne.symm h.gx0.2.2)).trans h.d.row, h.d.rd.keeps hkk (fun a ha hp => ?_), h.d.cap, h.d.a3, h.d.op.other hkk ⟨h.gx0.1, h.gx0.2.1⟩, h.d.g0⟩, ?_, h.gx0⟩
  · have h3 := h.d.a3 a ha hp
    have h4 := h.gx0.1
    simp only [List.mem_singleton]
    omega
  · rw [hw, heap_setCell_same _ gx i _ _ _ h.row, List.setIfInBounds_toArray]
/-- A part is added. -/
theorem RqT.add {w wr wa w4 : World} {g gx : Nat} {A3 : Option Addr} {c3 : Nat} {l : List UInt8} {e : Int} {A A4 : Option Addr} {c c4 n : Nat} {ts : List Pt} {t : Pt} {vs : List Value} (h : RqT w wr g gx A3 c3 l e A c ts vs)
    (hb : RdB wr t.A t.p.b) (hA : ∀ a, t.A = some a → 0 < t.p.b.length → a.block < w.heap.size) (hka : Keeps [] wr wa) (hn : n = ts.length)
    (ho : w4.ownsRow 0 63 4 (.slice A4 (n + 1) c4) (n + 1) (encPt ts ++ t.cells)) (hk : Keeps (blk A) wa w4) (hf : ∀ a, A4 = some a → a.block ∈ blk A ∨ wa.heap.size ≤ a.block) : RqI w w4 g A3 c3 l e A4 c4 (ts ++ [t]) := by
  subst hn
  have s1 := lt_of_block h.d.row
  have s2 := hka.size
  have k14 : Keeps (blk A) wr w4 := (hka.mono (by simp)).trans hk (fun t ht => .inl ht)
  have old : ∀ {a : Addr}, a.block < w.heap.size → a.block ∉ blk A := fun {a} h1 hm => by
    obtain ⟨b, e1, e2⟩ := mem_blk.1 hm
    have := h.d.op.fr b e1
    omega
  have sk := h.d.op.kp.size
  refine ⟨(k14.block g s1 h.d.g0.2).trans h.d.row, h.d.rd.keeps k14 (fun a ha hp => old (h.d.a3 a ha hp)), h.d.cap, h.d.a3, ⟨?_, fun a ha => ?_, fun s hs => ?_, h.d.op.kp.fresh k14 h.d.op.fr⟩, h.d.g0.1, fun hm => ?_⟩
  · rw [List.length_append, encPt_append]
    simpa [encPt] using ho
  · rcases hf a ha with h1 | h1
    · obtain ⟨b, e1, e2⟩ := mem_blk.1 h1
      rw [← e2]; exact h.d.op.fr b e1
    · omega
  · rcases List.mem_append.1 hs with h1 | h1
    · exact ⟨(h.d.op.rd s h1).1.keeps k14 (fun a ha hp => old ((h.d.op.rd s h1).2 a ha hp)), (h.d.op.rd s h1).2⟩
    · obtain rfl := List.mem_singleton.1 h1
      exact ⟨hb.keeps k14 (fun a ha hp => old (hA a ha hp)), hA⟩
  · obtain ⟨b, e1, e2⟩ := mem_blk.1 hm
    rcases hf b e1 with h3 | h3
    · rw [e2] at h3; exact h.d.g0.2 h3
    · omega
/-- The parts, or the error's number. -/
def RDecP (b : List UInt8) (w : World) (r : Ending) (w' : World) : Prop :=
  Keeps [] w w' ∧ ((∃ ts A c, decE10 b = .ok (ts.map Pt.p) ∧ ts.length ≤ 64 ∧ OqI w w' A c ts ∧ r = .returned (.tuple #[.slice A ts.length c, .int .i64 0])) ∨ (decE10 b = .error 3 ∧ r = .returned (.tuple #[.slice none 0 0, .int .i64 3])))
end Go.Proofs.YtljinghhalcnnaaDoor
