/- What the document's reader does: contracts. Bytes that the document's reader takes off: a contract. -/
import Derived.Test.YtljinghhalcnnaaDoorQDeltaReads17
import Derived.Test.YtljinghhalcnnaaDoorQDeltaReads9
import Derived.Test.YtljinghhalcnnaaDoorQDeltaReads10
namespace Go.Proofs.YtljinghhalcnnaaDoor
open Go.RowKit

/-- The document's reader as a value. -/
def rV (A : Option Addr) (n c : Nat) (e : Int) : Value := .agg #[.slice A n c, .int .i64 e]
/-- A call of the document's: what is left, the error, the value. -/
def RefP (A : Option Addr) (l : List UInt8) (e : Int) (v : Value) (w : World) (en : Ending) (w' : World) : Prop :=
  ∃ A' c' l', Hid (l' = l) ∧ en = .returned (.tuple #[.agg #[.slice A' l'.length c', .int .i64 e], v]) ∧ RdB w' A' l' ∧ l'.length ≤ c' ∧ Keeps [] w w' ∧ (∀ a, A' = some a → a.block ∈ blk A)

theorem reffail_any (A : Option Addr) (n c : Nat) (e0 e : Int) (w : World) : Calls Tryd.prog 46 #[.agg #[.slice A n c, .int .i64 e0], .int .i64 e] w
    fun en w' => en = .returned (.agg #[.slice A n c, .int .i64 (if e0 = 0 then e else e0)]) ∧ Keeps [] w w' := by
  by_cases h : e0 = 0
  · subst h
    go_enter Tryd.func46, Tryd.ntmps46
    go_wp2_with fail
    refine bodyPost_ret (v := .agg #[.slice A n c, .int .i64 e]) (by simp [results, Tryd.results46, go_sem]) rfl ⟨by simp, ?_⟩
    repeat (first | exact Keeps.refl [] w | refine Keeps.setCell ?_ (.inr (by simp)) _ | refine Keeps.alloc ?_ _)
  · go_enter Tryd.func46, Tryd.ntmps46
    go_wp2_with fail
    refine bodyPost_ret (v := .agg #[.slice A n c, .int .i64 e0]) (by simp [results, Tryd.results46, go_sem]) rfl ⟨rfl, ?_⟩
    repeat (first | exact Keeps.refl [] w | refine Keeps.setCell ?_ (.inr (by simp)) _ | refine Keeps.alloc ?_ _)

theorem refdone_any (A : Option Addr) (l : List UInt8) (c : Nat) (e : Int) (w : World) : Calls Tryd.prog 29 #[.agg #[.slice A l.length c, .int .i64 e]] w
    fun en w' => en = .returned (.int .i64 (doneR l e)) ∧ Keeps [] w w' := by
  by_cases he : e = 0
  · subst he
    by_cases hl : l.length = 0
    · have e1 : doneR l 0 = 0 := by unfold doneR; rw [if_neg (by simp), if_pos hl]
      rw [e1, hl]
      go_enter Tryd.func29, Tryd.ntmps29
      go_wp2_with fail
      go_ret
      exact ⟨rfl, (Keeps.refl [] w).alloc _⟩
    · have e1 : doneR l 0 = 3 := by unfold doneR; rw [if_neg (by simp), if_neg hl]
      rw [e1]
      have hl' : (0 : Int) < (l.length : Int) := by omega
      go_enter Tryd.func29, Tryd.ntmps29
      go_wp2_with fail
      go_ret
      exact ⟨rfl, (Keeps.refl [] w).alloc _⟩
  · have e1 : doneR l e = e := by unfold doneR; rw [if_pos he]
    rw [e1]
    go_enter Tryd.func29, Tryd.ntmps29
    go_wp2_with fail
    go_ret
    exact ⟨rfl, (Keeps.refl [] w).alloc _⟩
theorem two_new (w : World) (o1 o2 : Obj) : ((w.alloc o1).alloc o2).heap[w.heap.size + 1]? = some o2 := by
  have := heap_alloc_new (w.alloc o1) o2
  rwa [show (w.alloc o1).heap.size = w.heap.size + 1 by simp] at this
theorem refnumber_any (A : Option Addr) (l : List UInt8) (c : Nat) (w : World) (hl : l.length ≤ 140737488355328) (hr : RdB w A l) :
    Calls Tryd.prog 47 #[.slice A l.length c] w (RNumP (numB l) w) := by
  rcases l with _ | ⟨b, t⟩
  · exact refnumber_nil A c w
  · exact refnumber_cons A b t c w (by simpa using hl) hr
theorem Keeps.frozen {S : List Nat} {w w' : World} (h : Keeps S w w') {p : Addr} {v : Value} (hf : w.frozen? p = false) (hc : w.cell? p = some v) (hS : p.block ∉ S) : w'.frozen? p = false := by
  have hb := h.block p.block (block_lt_of_cell hc) hS
  unfold World.frozen? at hf ⊢
  rw [hb]; exact hf

set_option maxHeartbeats 2000000 in
theorem refreaduint_any (A : Option Addr) (l : List UInt8) (c : Nat) (e : Int) (w : World) (hl : l.length ≤ 140737488351232) (hcl : l.length ≤ c) (hr : RdB w A l) (most : Nat) :
    Calls Tryd.prog 27 #[.agg #[.slice A l.length c, .int .i64 e], .int .u64 most] w (RefP A (uintR most l e).1 (uintR most l e).2.1 (.int .u64 ((uintR most l e).2.2 : Nat)) w) := by
  have HR := Lib.hid hr
  clear hr
  by_cases he : e = 0
  · subst he
    obtain ⟨⟨n, k, er⟩, hnb⟩ : ∃ r, r = numB l := ⟨_, rfl⟩
    have hlt := numB_lt l
    rw [← hnb] at hlt
    obtain ⟨h1, h2, h3, h4⟩ := hlt
    simp only at h1 h2 h3 h4
    have HNB := Lib.hid hnb
    clear hnb
    by_cases her : er = 0
    · subst her
      have hpos := numB_ok HNB.out.symm
      by_cases hmost : most < n
      · have hmost' : (most : Int) < (n : Int) := by omega
        have HMO := Lib.hid hmost
        clear hmost
        go_enter Tryd.func27, Tryd.ntmps27
        go_wp2_with fail
        refine (refnumber_any _ l c _ (by omega) ((HR.out.alloc _).alloc _)).mono ?_
        rintro en w2 ⟨rfl, hk2⟩
        rw [← HNB.out]
        have hb0 : w2.heap[w.heap.size]? = some (.cells #[.slice A l.length c, .int .i64 0] 60 (0, 0)) := (hk2.block w.heap.size (by simp; omega) (by simp)).trans ((Below.heap_alloc _ _ _ (by simp)).trans (heap_alloc_new _ _))
        have hb1 : w2.heap[w.heap.size + 1]? = some (.cells #[.slice none 0 0, .int .i64 0] 60 (0, 0)) := (hk2.block (w.heap.size + 1) (by simp) (by simp)).trans (two_new _ _ _)
        have b0 : w2.cell? ⟨w.heap.size, 0, none⟩ = some (.slice A l.length c) := by rw [cell_of_row _ _ _ _ _ _ hb0]; rfl
        have b1 : w2.cell? ⟨w.heap.size, 1, none⟩ = some (.int .i64 0) := by rw [cell_of_row _ _ _ _ _ _ hb0]; rfl
        have b2 : w2.cell? ⟨w.heap.size + 1, 0, none⟩ = some (.slice none 0 0) := by rw [cell_of_row _ _ _ _ _ _ hb1]; rfl
        have b3 : w2.cell? ⟨w.heap.size + 1, 1, none⟩ = some (.int .i64 0) := by rw [cell_of_row _ _ _ _ _ _ hb1]; rfl
        have f0 : w2.frozen? ⟨w.heap.size, 0, none⟩ = false := frozen_of_row w2 _ 0 _ _ hb0
        have f1 : w2.frozen? ⟨w.heap.size, 1, none⟩ = false := frozen_of_row w2 _ 1 _ _ hb0
        have f2 : w2.frozen? ⟨w.heap.size + 1, 0, none⟩ = false := frozen_of_row w2 _ 0 _ _ hb1
        have f3 : w2.frozen? ⟨w.heap.size + 1, 1, none⟩ = false := frozen_of_row w2 _ 1 _ _ hb1
        have K2 := Lib.hid ((((Keeps.refl [] w).alloc _).alloc _).trans hk2 (by simp))
        clear hk2 hb0 hb1
        go_wp2_with fail
        refine (reffail_any _ _ _ 0 4 _).mono ?_
        rintro en w3 ⟨rfl, hk3⟩
        rw [if_pos rfl]
        have b2' := hk3.cell b2 (by simp)
        have b3' := hk3.cell b3 (by simp)
        have f2' := hk3.frozen f2 b2 (by simp)
        have f3' := hk3.frozen f3 b3 (by simp)
        have K3 := Lib.hid (K2.out.trans hk3 (by simp))
        clear hk3 b0 b1 b2 b3 f0 f1 f2 f3
        go_wp2_with fail
        have e1 : uintR most l 0 = (l, 4, 0) := by unfold uintR bnd; rw [if_neg (by simp), ← HNB.out, if_neg (by simp), if_pos HMO.out]
        rw [e1]
        refine bodyPost_ret (v := .tuple #[.agg #[.slice A l.length c, .int .i64 4], .int .u64 0]) (by simp [results, Tryd.results27, go_sem, b2', b3']) rfl ⟨A, c, l, rfl, rfl, HR.out.keeps0 ?_, hcl, ?_, fun a ha => mem_blk.2 ⟨a, ha, rfl⟩⟩
        all_goals repeat (first | exact K3.out | refine Keeps.setCell ?_ (.inr (by simp)) _)
      · have hmost' : ¬ (most : Int) < (n : Int) := by omega
        have HMO := Lib.hid hmost
        clear hmost
        obtain ⟨gA, oA, rfl, _⟩ := HR.out.form hpos
        have hk0 : (0 : Int) ≤ (k : Int) := by omega
        have hkl : (k : Int) ≤ (l.length : Int) := by omega
        have hkc : (k : Int) ≤ (c : Int) := by omega
        go_enter Tryd.func27, Tryd.ntmps27
        go_wp2_with fail
        refine (refnumber_any _ l c _ (by omega) ((HR.out.alloc _).alloc _)).mono ?_
        rintro en w2 ⟨rfl, hk2⟩
        rw [← HNB.out]
        have hb0 : w2.heap[w.heap.size]? = some (.cells #[.slice (some ⟨gA, oA, none⟩) l.length c, .int .i64 0] 60 (0, 0)) := (hk2.block w.heap.size (by simp; omega) (by simp)).trans ((Below.heap_alloc _ _ _ (by simp)).trans (heap_alloc_new _ _))
        have hb1 : w2.heap[w.heap.size + 1]? = some (.cells #[.slice none 0 0, .int .i64 0] 60 (0, 0)) := (hk2.block (w.heap.size + 1) (by simp) (by simp)).trans (two_new _ _ _)
        have b0 : w2.cell? ⟨w.heap.size, 0, none⟩ = some (.slice (some ⟨gA, oA, none⟩) l.length c) := by rw [cell_of_row _ _ _ _ _ _ hb0]; rfl
        have b1 : w2.cell? ⟨w.heap.size, 1, none⟩ = some (.int .i64 0) := by rw [cell_of_row _ _ _ _ _ _ hb0]; rfl
        have b2 : w2.cell? ⟨w.heap.size + 1, 0, none⟩ = some (.slice none 0 0) := by rw [cell_of_row _ _ _ _ _ _ hb1]; rfl
        have b3 : w2.cell? ⟨w.heap.size + 1, 1, none⟩ = some (.int .i64 0) := by rw [cell_of_row _ _ _ _ _ _ hb1]; rfl
        have f0 : w2.frozen? ⟨w.heap.size, 0, none⟩ = false := frozen_of_row w2 _ 0 _ _ hb0
        have f1 : w2.frozen? ⟨w.heap.size, 1, none⟩ = false := frozen_of_row w2 _ 1 _ _ hb0
        have f2 : w2.frozen? ⟨w.heap.size + 1, 0, none⟩ = false := frozen_of_row w2 _ 0 _ _ hb1
        have f3 : w2.frozen? ⟨w.heap.size + 1, 1, none⟩ = false := frozen_of_row w2 _ 1 _ _ hb1
        have K2 := Lib.hid ((((Keeps.refl [] w).alloc _).alloc _).trans hk2 (by simp))
        clear hk2 hb0 hb1
        go_wp2_with fail
        all_goals
          have e1 : uintR most l 0 = (l.drop k, 0, n) := by unfold uintR bnd; rw [if_neg (by simp), ← HNB.out, if_neg (by simp), if_neg HMO.out, if_neg (by simp)]
          have elen : (l.drop k).length = l.length - k := List.length_drop
          rw [e1]
          refine bodyPost_ret (v := .tuple #[.agg #[.slice _ (l.length - k) _, .int .i64 0], .int .u64 (n : Nat)]) (by simp [results, Tryd.results27, go_sem, b2, b3]; exact ⟨rfl, rfl⟩) rfl ⟨_, _, l.drop k, rfl, by rw [elen], RdB.keeps0 (by exact RdB.behind HR.out k h3 _ (by intro hq; first | rfl | omega)) ?_, by rw [elen]; omega, ?_, fun a ha => by rw [← Option.some.inj ha]; exact mem_blk.2 ⟨_, rfl, rfl⟩⟩
          all_goals repeat (first | exact K2.out | refine Keeps.setCell ?_ (.inr (by simp)) _)
    · have her' : ¬ (er = 0) := her
      go_enter Tryd.func27, Tryd.ntmps27
      go_wp2_with fail
      refine (refnumber_any _ l c _ (by omega) ((HR.out.alloc _).alloc _)).mono ?_
      rintro en w2 ⟨rfl, hk2⟩
      rw [← HNB.out]
      have hb0 : w2.heap[w.heap.size]? = some (.cells #[.slice A l.length c, .int .i64 0] 60 (0, 0)) := (hk2.block w.heap.size (by simp; omega) (by simp)).trans ((Below.heap_alloc _ _ _ (by simp)).trans (heap_alloc_new _ _))
      have hb1 : w2.heap[w.heap.size + 1]? = some (.cells #[.slice none 0 0, .int .i64 0] 60 (0, 0)) := (hk2.block (w.heap.size + 1) (by simp) (by simp)).trans (two_new _ _ _)
      have b0 : w2.cell? ⟨w.heap.size, 0, none⟩ = some (.slice A l.length c) := by rw [cell_of_row _ _ _ _ _ _ hb0]; rfl
      have b1 : w2.cell? ⟨w.heap.size, 1, none⟩ = some (.int .i64 0) := by rw [cell_of_row _ _ _ _ _ _ hb0]; rfl
      have b2 : w2.cell? ⟨w.heap.size + 1, 0, none⟩ = some (.slice none 0 0) := by rw [cell_of_row _ _ _ _ _ _ hb1]; rfl
      have b3 : w2.cell? ⟨w.heap.size + 1, 1, none⟩ = some (.int .i64 0) := by rw [cell_of_row _ _ _ _ _ _ hb1]; rfl
      have f0 : w2.frozen? ⟨w.heap.size, 0, none⟩ = false := frozen_of_row w2 _ 0 _ _ hb0
      have f1 : w2.frozen? ⟨w.heap.size, 1, none⟩ = false := frozen_of_row w2 _ 1 _ _ hb0
      have f2 : w2.frozen? ⟨w.heap.size + 1, 0, none⟩ = false := frozen_of_row w2 _ 0 _ _ hb1
      have f3 : w2.frozen? ⟨w.heap.size + 1, 1, none⟩ = false := frozen_of_row w2 _ 1 _ _ hb1
      have K2 := Lib.hid ((((Keeps.refl [] w).alloc _).alloc _).trans hk2 (by simp))
      clear hk2 hb0 hb1
      go_wp2_with fail
      refine (reffail_any _ _ _ 0 er _).mono ?_
      rintro en w3 ⟨rfl, hk3⟩
      rw [if_pos rfl]
      have b2' := hk3.cell b2 (by simp)
      have b3' := hk3.cell b3 (by simp)
      have f2' := hk3.frozen f2 b2 (by simp)
      have f3' := hk3.frozen f3 b3 (by simp)
      have K3 := Lib.hid (K2.out.trans hk3 (by simp))
      clear hk3 b0 b1 b2 b3 f0 f1 f2 f3
      go_wp2_with fail
      have e1 : uintR most l 0 = (l, er, 0) := by unfold uintR bnd; rw [if_neg (by simp), ← HNB.out, if_pos her]
      rw [e1]
      refine bodyPost_ret (v := .tuple #[.agg #[.slice A l.length c, .int .i64 er], .int .u64 0]) (by simp [results, Tryd.results27, go_sem, b2', b3']) rfl ⟨A, c, l, rfl, rfl, HR.out.keeps0 ?_, hcl, ?_, fun a ha => mem_blk.2 ⟨a, ha, rfl⟩⟩
      all_goals repeat (first | exact K3.out | refine Keeps.setCell ?_ (.inr (by simp)) _)
  · have e1 : uintR most l e = (l, e, 0) := by unfold uintR; rw [if_pos he]
    rw [e1]
    go_enter Tryd.func27, Tryd.ntmps27
    go_wp2_with fail
    refine bodyPost_ret (v := .tuple #[.agg #[.slice A l.length c, .int .i64 e], .int .u64 0]) (by simp [results, Tryd.results27, go_sem]) rfl ⟨A, c, l, rfl, rfl, HR.out.keeps0 ?_, hcl, ?_, fun a ha => mem_blk.2 ⟨a, ha, rfl⟩⟩
    all_goals repeat (first | exact Keeps.refl [] w | refine Keeps.setCell ?_ (.inr (by simp)) _ | refine Keeps.alloc ?_ _)
end Go.Proofs.YtljinghhalcnnaaDoor
namespace Go.Proofs.YtljinghhalcnnaaDoor
open Go.RowKit

/-- A call of the document's that hands bytes out: what is left, the error, the bytes. -/
def RefB (A : Option Addr) (r : List UInt8 × Int × List UInt8) (w : World) (en : Ending) (w' : World) : Prop :=
  ∃ A' c' l' A2 c2 t, Hid (l' = r.1) ∧ Hid (t = r.2.2) ∧ en = .returned (.tuple #[.agg #[.slice A' l'.length c', .int .i64 r.2.1], .slice A2 t.length c2]) ∧ RdB w' A' l' ∧ l'.length ≤ c' ∧ RdB w' A2 t ∧ t.length ≤ c2 ∧ Keeps [] w w' ∧
    (∀ a, A' = some a → a.block ∈ blk A) ∧ (∀ a, A2 = some a → a.block ∈ blk A)
theorem RefB.bad (A : Option Addr) (l : List UInt8) (c : Nat) (e : Int) {w w' : World} (hcl : l.length ≤ c) (hr : RdB w' A l) (hk : Keeps [] w w') : RefB A (l, e, []) w (.returned (.tuple #[.agg #[.slice A l.length c, .int .i64 e], .slice none 0 0])) w' :=
  ⟨A, c, l, none, 0, [], rfl, rfl, rfl, hr, hcl, (OwnB.nil 5 w').rd, Nat.le_refl _, hk, fun a ha => mem_blk.2 ⟨a, ha, rfl⟩, by simp⟩

theorem RefB.ok {gA oA : Nat} {l : List UInt8} {c k n j : Nat} {w w' : World} {A1 A2 : Option Addr} {L1 L2 C1 C2 : Nat} (_hcl : l.length ≤ c) (hr : RdB w' (some ⟨gA, oA, none⟩) l) (hj : j = k + n) (hjl : j ≤ l.length)
    (h1 : L1 = l.length - j) (h2 : L2 = n) (hc1 : L1 ≤ C1) (hc2 : L2 ≤ C2) (hA1 : 0 < L1 → A1 = some ⟨gA, oA + j, none⟩) (hA2 : 0 < L2 → A2 = some ⟨gA, oA + k, none⟩)
    (hb1 : ∀ a, A1 = some a → a.block = gA) (hb2 : ∀ a, A2 = some a → a.block = gA) (hk : Keeps [] w w') :
    RefB (some ⟨gA, oA, none⟩) (l.drop (k + n), 0, (l.drop k).take n) w (.returned (.tuple #[.agg #[.slice A1 L1 C1, .int .i64 0], .slice A2 L2 C2])) w' := by
  have e1 : (l.drop (k + n)).length = L1 := by rw [List.length_drop]; omega
  have e2 : ((l.drop k).take n).length = L2 := by rw [List.length_take, List.length_drop]; omega
  refine ⟨A1, C1, l.drop (k + n), A2, C2, (l.drop k).take n, rfl, rfl, by rw [e1, e2], ?_, by rw [e1]; exact hc1, ?_, by rw [e2]; exact hc2, hk, fun a ha => mem_blk.2 ⟨_, rfl, (hb1 a ha).symm⟩, fun a ha => mem_blk.2 ⟨_, rfl, (hb2 a ha).symm⟩⟩
  · rw [← hj]
    exact hr.behind j hjl A1 (fun hq => hA1 (by omega))
  · exact hr.part k n (by omega) (A' := A2) (fun hm ad e => by rw [hA2 (by omega), ← Option.some.inj e, add_new])
set_option maxRecDepth 100000 in
set_option maxHeartbeats 4000000 in
theorem refreadbytes_any (A : Option Addr) (l : List UInt8) (c : Nat) (e : Int) (w : World) (hl : l.length ≤ 140737488351232) (hcl : l.length ≤ c) (hr : RdB w A l) (most : Int) (hm1 : -9223372036854775808 ≤ most) (hm2 : most ≤ 9223372036854775807) :
    Calls Tryd.prog 28 #[.agg #[.slice A l.length c, .int .i64 e], .int .i64 most] w (RefB A (bytesR most l e) w) := by
  have HR := Lib.hid hr
  clear hr
  by_cases he : e = 0
  · subst he
    by_cases hneg : most < 0
    · have E1 := Lib.hid (show bytesR most l 0 = (l, 1, []) by unfold bytesR; rw [if_neg (by simp), if_pos hneg])
      go_enter Tryd.func28, Tryd.ntmps28
      go_wp2_with fail
      refine (reffail_any _ _ _ 0 1 _).mono ?_
      rintro en w3 ⟨rfl, hk3⟩
      rw [if_pos rfl]
      have hb1 : w3.heap[w.heap.size + 1]? = some (.cells #[.slice none 0 0, .int .i64 0] 60 (0, 0)) := (hk3.block (w.heap.size + 1) (by simp) (by simp)).trans (two_new _ _ _)
      have b2 : w3.cell? ⟨w.heap.size + 1, 0, none⟩ = some (.slice none 0 0) := by rw [cell_of_row _ _ _ _ _ _ hb1]; rfl
      have b3 : w3.cell? ⟨w.heap.size + 1, 1, none⟩ = some (.int .i64 0) := by rw [cell_of_row _ _ _ _ _ _ hb1]; rfl
      have f2 : w3.frozen? ⟨w.heap.size + 1, 0, none⟩ = false := frozen_of_row w3 _ 0 _ _ hb1
      have f3 : w3.frozen? ⟨w.heap.size + 1, 1, none⟩ = false := frozen_of_row w3 _ 1 _ _ hb1
      have K3 := Lib.hid ((((Keeps.refl [] w).alloc _).alloc _).trans hk3 (by simp))
      clear hk3 hb1
      go_wp2_with fail
      rw [E1.out]
      refine bodyPost_ret (v := .tuple #[.agg #[.slice A l.length c, .int .i64 1], .slice none 0 0]) (by simp [results, Tryd.results28, go_sem, b2, b3]) rfl (RefB.bad A l c 1 hcl (HR.out.keeps0 ?_) ?_)
      all_goals repeat (first | exact K3.out | refine Keeps.setCell ?_ (.inr (by simp)) _)
    · obtain ⟨M, rfl⟩ : ∃ M : Nat, most = (M : Int) := ⟨most.toNat, by omega⟩
      have hm0 : ¬ (M : Int) < 0 := by omega
      have hw1 : IntKind.u64.wrap (M : Int) = (M : Int) := by rw [IntKind.wrap_u64]; omega
      obtain ⟨⟨n, k, er⟩, hnb⟩ : ∃ r, r = numB l := ⟨_, rfl⟩
      have hlt := numB_lt l
      rw [← hnb] at hlt
      obtain ⟨h1, h2, h3, h4⟩ := hlt
      simp only at h1 h2 h3 h4
      have HNB := Lib.hid hnb
      have EB := Lib.hid (show bytesR (M : Int) l 0 = if (bnd M 2 12 l).2.1 ≠ 0 then (l, (bnd M 2 12 l).2.1, []) else ((bnd M 2 12 l).1.drop (bnd M 2 12 l).2.2, 0, (bnd M 2 12 l).1.take (bnd M 2 12 l).2.2) by
        unfold bytesR; rw [if_neg (by simp), if_neg (by omega), Int.toNat_natCast])
      clear hnb h1 hneg hm1
      by_cases her : er = 0
      · subst her
        have hpos := numB_ok HNB.out.symm
        have hkl : (k : Int) ≤ (l.length : Int) := by omega
        clear h4
        by_cases hmost : M < n
        · have hmost' : (M : Int) < (n : Int) := by omega
          have E1 := Lib.hid (show bytesR (M : Int) l 0 = (l, 2, []) by rw [EB.out]; unfold bnd; rw [← HNB.out]; simp [hmost])
          clear hmost EB
          go_enter Tryd.func28, Tryd.ntmps28
          go_wp2_with fail
          refine (refnumber_any _ l c _ (by omega) ((HR.out.alloc _).alloc _)).mono ?_
          rintro en w2 ⟨rfl, hk2⟩
          rw [← HNB.out]
          have hb0 : w2.heap[w.heap.size]? = some (.cells #[.slice A l.length c, .int .i64 0] 60 (0, 0)) := (hk2.block w.heap.size (by simp; omega) (by simp)).trans ((Below.heap_alloc _ _ _ (by simp)).trans (heap_alloc_new _ _))
          have hb1 : w2.heap[w.heap.size + 1]? = some (.cells #[.slice none 0 0, .int .i64 0] 60 (0, 0)) := (hk2.block (w.heap.size + 1) (by simp) (by simp)).trans (two_new _ _ _)
          have b0 : w2.cell? ⟨w.heap.size, 0, none⟩ = some (.slice A l.length c) := by rw [cell_of_row _ _ _ _ _ _ hb0]; rfl
          have b1 : w2.cell? ⟨w.heap.size, 1, none⟩ = some (.int .i64 0) := by rw [cell_of_row _ _ _ _ _ _ hb0]; rfl
          have b2 : w2.cell? ⟨w.heap.size + 1, 0, none⟩ = some (.slice none 0 0) := by rw [cell_of_row _ _ _ _ _ _ hb1]; rfl
          have b3 : w2.cell? ⟨w.heap.size + 1, 1, none⟩ = some (.int .i64 0) := by rw [cell_of_row _ _ _ _ _ _ hb1]; rfl
          have f0 : w2.frozen? ⟨w.heap.size, 0, none⟩ = false := frozen_of_row w2 _ 0 _ _ hb0
          have f1 : w2.frozen? ⟨w.heap.size, 1, none⟩ = false := frozen_of_row w2 _ 1 _ _ hb0
          have f2 : w2.frozen? ⟨w.heap.size + 1, 0, none⟩ = false := frozen_of_row w2 _ 0 _ _ hb1
          have f3 : w2.frozen? ⟨w.heap.size + 1, 1, none⟩ = false := frozen_of_row w2 _ 1 _ _ hb1
          have K2 := Lib.hid ((((Keeps.refl [] w).alloc _).alloc _).trans hk2 (by simp))
          clear hk2 hb0 hb1
          go_wp2_with fail
          refine (reffail_any _ _ _ 0 2 _).mono ?_
          rintro en w3 ⟨rfl, hk3⟩
          rw [if_pos rfl]
          have b2' := hk3.cell b2 (by simp)
          have b3' := hk3.cell b3 (by simp)
          have f2' := hk3.frozen f2 b2 (by simp)
          have f3' := hk3.frozen f3 b3 (by simp)
          have K3 := Lib.hid (K2.out.trans hk3 (by simp))
          clear hk3 b0 b1 b2 b3 f0 f1 f2 f3
          go_wp2_with fail
          rw [E1.out]
          refine bodyPost_ret (v := .tuple #[.agg #[.slice A l.length c, .int .i64 2], .slice none 0 0]) (by simp [results, Tryd.results28, go_sem, b2', b3']) rfl (RefB.bad A l c 2 hcl (HR.out.keeps0 ?_) ?_)
          all_goals repeat (first | exact K3.out | refine Keeps.setCell ?_ (.inr (by simp)) _)
        · have HMO := Lib.hid (show ¬ (M : Int) < (n : Int) by omega)
          obtain ⟨d, hd⟩ : ∃ d, d = l.length - k := ⟨_, rfl⟩
          have hdl : IntKind.u64.wrap ((l.length : Int) - (k : Int)) = (d : Int) := by rw [IntKind.wrap_u64]; omega
          have hsd : (l.length : Int) - (k : Int) = (d : Int) := by omega
          have hwd : IntKind.u64.wrap (d : Int) = (d : Int) := by rw [IntKind.wrap_u64]; omega
          by_cases hend : d < n
          · have hend' : (d : Int) < (n : Int) := by omega
            have E1 := Lib.hid (show bytesR (M : Int) l 0 = (l, 12, []) by rw [EB.out]; unfold bnd; rw [← HNB.out]; rw [hd] at hend; simp [hmost, hend])
            clear hmost hend EB hd
            go_enter Tryd.func28, Tryd.ntmps28
            go_wp2_with fail
            refine (refnumber_any _ l c _ (by omega) ((HR.out.alloc _).alloc _)).mono ?_
            rintro en w2 ⟨rfl, hk2⟩
            rw [← HNB.out]
            have hb0 : w2.heap[w.heap.size]? = some (.cells #[.slice A l.length c, .int .i64 0] 60 (0, 0)) := (hk2.block w.heap.size (by simp; omega) (by simp)).trans ((Below.heap_alloc _ _ _ (by simp)).trans (heap_alloc_new _ _))
            have hb1 : w2.heap[w.heap.size + 1]? = some (.cells #[.slice none 0 0, .int .i64 0] 60 (0, 0)) := (hk2.block (w.heap.size + 1) (by simp) (by simp)).trans (two_new _ _ _)
            have b0 : w2.cell? ⟨w.heap.size, 0, none⟩ = some (.slice A l.length c) := by rw [cell_of_row _ _ _ _ _ _ hb0]; rfl
            have b1 : w2.cell? ⟨w.heap.size, 1, none⟩ = some (.int .i64 0) := by rw [cell_of_row _ _ _ _ _ _ hb0]; rfl
            have b2 : w2.cell? ⟨w.heap.size + 1, 0, none⟩ = some (.slice none 0 0) := by rw [cell_of_row _ _ _ _ _ _ hb1]; rfl
            have b3 : w2.cell? ⟨w.heap.size + 1, 1, none⟩ = some (.int .i64 0) := by rw [cell_of_row _ _ _ _ _ _ hb1]; rfl
            have f0 : w2.frozen? ⟨w.heap.size, 0, none⟩ = false := frozen_of_row w2 _ 0 _ _ hb0
            have f1 : w2.frozen? ⟨w.heap.size, 1, none⟩ = false := frozen_of_row w2 _ 1 _ _ hb0
            have f2 : w2.frozen? ⟨w.heap.size + 1, 0, none⟩ = false := frozen_of_row w2 _ 0 _ _ hb1
            have f3 : w2.frozen? ⟨w.heap.size + 1, 1, none⟩ = false := frozen_of_row w2 _ 1 _ _ hb1
            have K2 := Lib.hid ((((Keeps.refl [] w).alloc _).alloc _).trans hk2 (by simp))
            clear hk2 hb0 hb1
            have hmost' := HMO.out
            have hmd : decide ((M : Int) < (n : Int)) = false := by simpa using hmost'
            go_wp2_with fail
            refine (reffail_any _ _ _ 0 12 _).mono ?_
            rintro en w3 ⟨rfl, hk3⟩
            rw [if_pos rfl]
            have b2' := hk3.cell b2 (by simp)
            have b3' := hk3.cell b3 (by simp)
            have f2' := hk3.frozen f2 b2 (by simp)
            have f3' := hk3.frozen f3 b3 (by simp)
            have K3 := Lib.hid (K2.out.trans hk3 (by simp))
            clear hk3 b0 b1 b2 b3 f0 f1 f2 f3
            go_wp2_with fail
            rw [E1.out]
            refine bodyPost_ret (v := .tuple #[.agg #[.slice A l.length c, .int .i64 12], .slice none 0 0]) (by simp [results, Tryd.results28, go_sem, b2', b3']) rfl (RefB.bad A l c 12 hcl (HR.out.keeps0 ?_) ?_)
            all_goals repeat (first | exact K3.out | refine Keeps.setCell ?_ (.inr (by simp)) _)
          · have HEN := Lib.hid (show ¬ (d : Int) < (n : Int) by omega)
            have E1 := Lib.hid (show bytesR (M : Int) l 0 = (l.drop (k + n), 0, (l.drop k).take n) by rw [EB.out]; unfold bnd; rw [← HNB.out]; rw [hd] at hend; simp [hmost, hend, List.drop_drop])
            obtain ⟨j, hj⟩ : ∃ j, j = k + n := ⟨_, rfl⟩
            have dj : (k : Int) + (n : Int) = (j : Int) := by omega
            have hjl : (j : Int) ≤ (l.length : Int) := by omega
            have hkj : (k : Int) ≤ (j : Int) := by omega
            have hjc : (j : Int) ≤ (c : Int) := by omega
            have hni : IntKind.i64.wrap (n : Int) = (n : Int) := by rw [IntKind.wrap_i64]; omega
            have HJ := Lib.hid (show j = k + n ∧ j ≤ l.length from ⟨hj, by omega⟩)
            obtain ⟨gA, oA, rfl, _⟩ := HR.out.form hpos
            clear hmost hend EB hd hj
            go_enter Tryd.func28, Tryd.ntmps28
            go_wp2_with fail
            refine (refnumber_any _ l c _ (by omega) ((HR.out.alloc _).alloc _)).mono ?_
            rintro en w2 ⟨rfl, hk2⟩
            rw [← HNB.out]
            have hb0 : w2.heap[w.heap.size]? = some (.cells #[.slice (some ⟨gA, oA, none⟩) l.length c, .int .i64 0] 60 (0, 0)) := (hk2.block w.heap.size (by simp; omega) (by simp)).trans ((Below.heap_alloc _ _ _ (by simp)).trans (heap_alloc_new _ _))
            have hb1 : w2.heap[w.heap.size + 1]? = some (.cells #[.slice none 0 0, .int .i64 0] 60 (0, 0)) := (hk2.block (w.heap.size + 1) (by simp) (by simp)).trans (two_new _ _ _)
            have b0 : w2.cell? ⟨w.heap.size, 0, none⟩ = some (.slice (some ⟨gA, oA, none⟩) l.length c) := by rw [cell_of_row _ _ _ _ _ _ hb0]; rfl
            have b1 : w2.cell? ⟨w.heap.size, 1, none⟩ = some (.int .i64 0) := by rw [cell_of_row _ _ _ _ _ _ hb0]; rfl
            have b2 : w2.cell? ⟨w.heap.size + 1, 0, none⟩ = some (.slice none 0 0) := by rw [cell_of_row _ _ _ _ _ _ hb1]; rfl
            have b3 : w2.cell? ⟨w.heap.size + 1, 1, none⟩ = some (.int .i64 0) := by rw [cell_of_row _ _ _ _ _ _ hb1]; rfl
            have f0 : w2.frozen? ⟨w.heap.size, 0, none⟩ = false := frozen_of_row w2 _ 0 _ _ hb0
            have f1 : w2.frozen? ⟨w.heap.size, 1, none⟩ = false := frozen_of_row w2 _ 1 _ _ hb0
            have f2 : w2.frozen? ⟨w.heap.size + 1, 0, none⟩ = false := frozen_of_row w2 _ 0 _ _ hb1
            have f3 : w2.frozen? ⟨w.heap.size + 1, 1, none⟩ = false := frozen_of_row w2 _ 1 _ _ hb1
            have K2 := Lib.hid ((((Keeps.refl [] w).alloc _).alloc _).trans hk2 (by simp))
            clear hk2 hb0 hb1
            have hmost' := HMO.out
            have hmd : decide ((M : Int) < (n : Int)) = false := by simpa using hmost'
            have hend' := HEN.out
            have hed : decide ((d : Int) < (n : Int)) = false := by simpa using hend'
            go_wp2_with fail
            all_goals
              rw [E1.out]
              refine bodyPost_ret (v := .tuple #[.agg #[.slice ?_ ?_ ?_, .int .i64 0], .slice ?_ ?_ ?_]) (by simp [results, Tryd.results28, go_sem, b2, b3]; and_intros <;> rfl) rfl (RefB.ok (j := j) hcl (HR.out.keeps0 ?_) HJ.out.1 HJ.out.2 ?_ ?_ ?_ ?_ ?_ ?_ ?_ ?_ ?_)
            all_goals have HJ1 := HJ.out
            all_goals first | omega | (intro a ha; rw [← Option.some.inj ha]) | (intro hq; first | rfl | omega) | skip
            all_goals repeat (first | exact K2.out | refine Keeps.setCell ?_ (.inr (by simp)) _)
      · have her' : ¬ (er = 0) := her
        have heb : (er != 0) = true := by simpa using her
        have E1 := Lib.hid (show bytesR (M : Int) l 0 = (l, er, []) by rw [EB.out]; unfold bnd; rw [← HNB.out]; simp [her])
        clear EB her
        go_enter Tryd.func28, Tryd.ntmps28
        go_wp2_with fail
        refine (refnumber_any _ l c _ (by omega) ((HR.out.alloc _).alloc _)).mono ?_
        rintro en w2 ⟨rfl, hk2⟩
        rw [← HNB.out]
        have hb0 : w2.heap[w.heap.size]? = some (.cells #[.slice A l.length c, .int .i64 0] 60 (0, 0)) := (hk2.block w.heap.size (by simp; omega) (by simp)).trans ((Below.heap_alloc _ _ _ (by simp)).trans (heap_alloc_new _ _))
        have hb1 : w2.heap[w.heap.size + 1]? = some (.cells #[.slice none 0 0, .int .i64 0] 60 (0, 0)) := (hk2.block (w.heap.size + 1) (by simp) (by simp)).trans (two_new _ _ _)
        have b0 : w2.cell? ⟨w.heap.size, 0, none⟩ = some (.slice A l.length c) := by rw [cell_of_row _ _ _ _ _ _ hb0]; rfl
        have b1 : w2.cell? ⟨w.heap.size, 1, none⟩ = some (.int .i64 0) := by rw [cell_of_row _ _ _ _ _ _ hb0]; rfl
        have b2 : w2.cell? ⟨w.heap.size + 1, 0, none⟩ = some (.slice none 0 0) := by rw [cell_of_row _ _ _ _ _ _ hb1]; rfl
        have b3 : w2.cell? ⟨w.heap.size + 1, 1, none⟩ = some (.int .i64 0) := by rw [cell_of_row _ _ _ _ _ _ hb1]; rfl
        have f0 : w2.frozen? ⟨w.heap.size, 0, none⟩ = false := frozen_of_row w2 _ 0 _ _ hb0
        have f1 : w2.frozen? ⟨w.heap.size, 1, none⟩ = false := frozen_of_row w2 _ 1 _ _ hb0
        have f2 : w2.frozen? ⟨w.heap.size + 1, 0, none⟩ = false := frozen_of_row w2 _ 0 _ _ hb1
        have f3 : w2.frozen? ⟨w.heap.size + 1, 1, none⟩ = false := frozen_of_row w2 _ 1 _ _ hb1
        have K2 := Lib.hid ((((Keeps.refl [] w).alloc _).alloc _).trans hk2 (by simp))
        clear hk2 hb0 hb1
        go_wp2_with fail
        refine (reffail_any _ _ _ 0 er _).mono ?_
        rintro en w3 ⟨rfl, hk3⟩
        rw [if_pos rfl]
        have b2' := hk3.cell b2 (by simp)
        have b3' := hk3.cell b3 (by simp)
        have f2' := hk3.frozen f2 b2 (by simp)
        have f3' := hk3.frozen f3 b3 (by simp)
        have K3 := Lib.hid (K2.out.trans hk3 (by simp))
        clear hk3 b0 b1 b2 b3 f0 f1 f2 f3
        go_wp2_with fail
        rw [E1.out]
        refine bodyPost_ret (v := .tuple #[.agg #[.slice A l.length c, .int .i64 er], .slice none 0 0]) (by simp [results, Tryd.results28, go_sem, b2', b3']) rfl (RefB.bad A l c er hcl (HR.out.keeps0 ?_) ?_)
        all_goals repeat (first | exact K3.out | refine Keeps.setCell ?_ (.inr (by simp)) _)
  · have e1 : bytesR most l e = (l, e, []) := by unfold bytesR; rw [if_pos he]
    rw [e1]
    go_enter Tryd.func28, Tryd.ntmps28
    go_wp2_with fail
    refine bodyPost_ret (v := .tuple #[.agg #[.slice A l.length c, .int .i64 e], .slice none 0 0]) (by simp [results, Tryd.results28, go_sem]) rfl (RefB.bad A l c e hcl (HR.out.keeps0 ?_) ?_)
    all_goals repeat (first | exact Keeps.refl [] w | refine Keeps.setCell ?_ (.inr (by simp)) _ | refine Keeps.alloc ?_ _)
end Go.Proofs.YtljinghhalcnnaaDoor
