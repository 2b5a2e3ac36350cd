/- The law on the number that any bytes begin with: called with any bytes and any bound it answers true. -/
import Derived.Test.YtficgbeolmdbiaaDoorPackRefI
import Derived.Test.YtficgbeolmdbiaaDoorPackSure
import Derived.Test.YtficgbeolmdbiaaDoorNum
namespace Go.Proofs.YtficgbeolmdbiaaDoor
open Go.RowKit

theorem rduint_spec (g : Nat) (A : Option Addr) (c : Nat) (l : List UInt8) (e : Int) (w : World) (h : Rdr w g A c l e) (most : Nat) (r : List UInt8 × Int × Nat) (hr : uintR most l e = r) :
    Calls Tryd.prog 7 #[.pointer (some ⟨g, 0, none⟩), .int .u64 most] w (RdV g A r w) := by
  subst hr
  exact rduint_any g A c l e w h most
theorem refuint_spec (A : Option Addr) (l : List UInt8) (c : Nat) (e : Int) (w : World) (hl : l.length ≤ 140737488351232) (hcl : l.length ≤ c) (hr : RdB w A l) (most : Nat) (r : List UInt8 × Int × Nat) (h : uintR most l e = r) :
    Calls Tryd.prog 9 #[.agg #[.slice A l.length c, .int .i64 e], .int .u64 most] w (RefP A r.1 r.2.1 (.int .u64 (r.2.2 : Nat)) w) := by
  subst h
  exact refreaduint_any A l c e w hl hcl hr most
theorem refint_spec (A : Option Addr) (l : List UInt8) (c : Nat) (e : Int) (w : World) (hl : l.length ≤ 140737488351232) (hcl : l.length ≤ c) (hr : RdB w A l) (r : List UInt8 × Int × Int) (h : intR l e = r) :
    Calls Tryd.prog 10 #[.agg #[.slice A l.length c, .int .i64 e]] w (RefP A r.1 r.2.1 (.int .i64 r.2.2) w) := by
  subst h
  exact refreadint_any A l c e w hl hcl hr

theorem bnd_short (most : Nat) (a b : Int) (l : List UInt8) : (bnd most a b l).1.length ≤ l.length := by
  unfold bnd
  repeat' split
  all_goals simp
theorem uintR_len (most : Nat) (l : List UInt8) (e : Int) : (uintR most l e).1.length ≤ l.length := by
  unfold uintR
  split
  · simp
  · exact bnd_short _ _ _ _
theorem intR_len (l : List UInt8) (e : Int) : (intR l e).1.length ≤ l.length := by
  unfold intR
  split
  · simp
  · split
    · simp
    · rename_i b t
      split
      · simp
      · split
        · simp
        · have := bnd_short 9223372036854775807 4 0 t
          simp only [List.length_cons]
          omega

set_option maxHeartbeats 4000000 in
theorem law_any (A : Option Addr) (l : List UInt8) (c : Nat) (most : Nat) (w : World) (hg : HT w) (hl : l.length ≤ 140737488351232) (hc : l.length ≤ c) (hr : RdB w A l) :
    Calls Tryd.prog 3 #[.slice A l.length c, .int .u64 most] w fun e w' => e = .returned (.bool true) ∧ Below w.heap.size w w' := by
  have HR := Lib.hid hr
  have HG := Lib.hid hg
  have HA := Lib.hid (show ∀ a, A = some a → 0 < l.length → a.block < w.heap.size from fun a ha h => Rd.lt hr (by simpa using h) ha)
  have keep : ∀ w', Keeps [] w w' → Below w.heap.size w w' := fun w' h => h.below (Nat.le_refl _) (by simp)
  have KEEP := Lib.hid keep
  obtain ⟨⟨l1, e1, x⟩, hu⟩ : ∃ r, r = uintR most l 0 := ⟨_, rfl⟩
  obtain ⟨⟨l2, e2, y⟩, hi⟩ : ∃ r, r = intR l 0 := ⟨_, rfl⟩
  have HU := Lib.hid hu
  have HI := Lib.hid hi
  clear hr hg keep hu hi
  go_enter Tryd.func3, Tryd.ntmps3
  go_wp2_with fail
  refine (read_any A l c w hl hc HR.out HA.out).mono ?_
  rintro e w1 ⟨rfl, hr1, hk1⟩
  have HR1 := Lib.hid hr1
  have HK1 := Lib.hid hk1
  have z1 : w.heap.size < w1.heap.size := hr1.lt
  clear hr1 hk1
  go_wp2_with fail
  refine (read_any A l c w1 hl hc (HR.out.keeps0 HK1.out) (fun a ha h => Nat.lt_of_lt_of_le (HA.out a ha h) HK1.out.size)).mono ?_
  rintro e w2 ⟨rfl, hr2, hk2⟩
  have HS2 := Lib.hid hr2
  have HR2 := Lib.hid (HR1.out.keeps0 hk2)
  have HK2 := Lib.hid (HK1.out.trans hk2 (by simp))
  have z2 : w1.heap.size < w2.heap.size := hr2.lt
  clear hr2 hk2
  go_wp2_with fail
  refine (rduint_spec w.heap.size A c l 0 w2 HR2.out most (l1, e1, x) HU.out.symm).mono ?_
  rintro e w3 ⟨A3, c3, l3, hl3, rfl, hr3, hk3, hb3⟩
  have HR3 := Lib.hid hr3
  have HB3 := Lib.hid (show ∀ a, A3 = some a → 0 < l3.length → a.block ≠ w1.heap.size from fun a ha h => by
    obtain ⟨a0, e0, e1'⟩ := mem_blk.1 (hb3 a ha)
    have h1 := uintR_len most l 0
    rw [← HU.out, ← hl3.out] at h1
    have := HA.out a0 e0 (by omega)
    omega)
  have HS3 := Lib.hid (HS2.out.keeps hk3 (by simp; omega) (fun a ha h => by have := HA.out a ha h; simp; omega))
  have HL3 := Lib.hid ((HR.out.keeps0 HK2.out).keeps hk3 (fun a ha h => by have := HA.out a ha h; simp; omega))
  have HK3 := Lib.hid (HK2.out.trans hk3 (fun t ht => .inr (by simp at ht; omega)))
  clear hr3 hk3 hb3
  go_wp2_with fail
  refine (rdint_spec w1.heap.size A c l 0 w3 HS3.out (l2, e2, y) HI.out.symm).mono ?_
  rintro e w4 ⟨A4, c4, l4, hl4, rfl, hr4, hk4, hb4⟩
  have HS4 := Lib.hid hr4
  have HR4 := Lib.hid (HR3.out.keeps hk4 (by simp; omega) (fun a ha h => by have := HB3.out a ha h; simpa using this))
  have HL4 := Lib.hid (HL3.out.keeps hk4 (fun a ha h => by have := HA.out a ha h; simp; omega))
  have HK4 := Lib.hid (HK3.out.trans hk4 (fun t ht => .inr (by simp at ht; omega)))
  clear hr4 hk4 hb4
  go_wp2_with fail
  refine (refuint_spec A l c 0 w4 hl hc HL4.out most (l1, e1, x) HU.out.symm).mono ?_
  rintro e w5 ⟨A5, c5, l5, hl5, rfl, hr5, hc5, hk5, hb5⟩
  have HR5 := Lib.hid (HR4.out.keeps0 hk5)
  have HS5 := Lib.hid (HS4.out.keeps0 hk5)
  have HL5 := Lib.hid (HL4.out.keeps0 hk5)
  have HK5 := Lib.hid (HK4.out.trans hk5 (by simp))
  clear hr5 hk5 hb5
  go_wp2_with fail
  have K5a : Keeps [] w5 (w5.alloc (.cells #[.slice A5 l5.length c5, .int .i64 e1] 29)) := (Keeps.refl [] w5).alloc _
  refine (refint_spec A l c 0 _ hl hc (HL5.out.alloc _) (l2, e2, y) HI.out.symm).mono ?_
  rintro e w7 ⟨A7, c7, l7, hl7, rfl, hr7, hc7, hk7, hb7⟩
  have K57 := Lib.hid (K5a.trans hk7 (by simp))
  have P7 : w7.heap[w5.heap.size]? = some (.cells #[.slice A5 l5.length c5, .int .i64 e1] 29 (0, 0)) := (hk7.block w5.heap.size (by simp) (by simp)).trans (heap_alloc_new _ _)
  have HP7 := Lib.hid P7
  clear hr7 hk7 hb7 K5a P7
  go_wp2_with fail
  obtain ⟨w8, hw8⟩ : ∃ w8, w8 = w7.alloc (.cells #[.slice A7 l7.length c7, .int .i64 e2] 29) := ⟨_, rfl⟩
  rw [← hw8]
  have K78 : Keeps [] w7 w8 := by rw [hw8]; exact (Keeps.refl [] w7).alloc _
  have HQ8 := Lib.hid (show w8.heap[w7.heap.size]? = some (.cells #[.slice A7 l7.length c7, .int .i64 e2] 29 (0, 0)) by rw [hw8]; exact heap_alloc_new _ _)
  have HP8 := Lib.hid (show w8.heap[w5.heap.size]? = some (.cells #[.slice A5 l5.length c5, .int .i64 e1] 29 (0, 0)) from (K78.block _ (lt_of_block HP7.out) (by simp)).trans HP7.out)
  have P0 : ∀ w', Keeps [] w8 w' → w'.cell? ⟨w5.heap.size, 0, none⟩ = some (.slice A5 l5.length c5) := fun w' h => h.cell (by rw [cell_of_row _ _ _ _ _ _ HP8.out]; rfl) (by simp)
  have P1 : ∀ w', Keeps [] w8 w' → w'.cell? ⟨w5.heap.size, 1, none⟩ = some (.int .i64 e1) := fun w' h => h.cell (by rw [cell_of_row _ _ _ _ _ _ HP8.out]; rfl) (by simp)
  have Q0 : ∀ w', Keeps [] w8 w' → w'.cell? ⟨w7.heap.size, 0, none⟩ = some (.slice A7 l7.length c7) := fun w' h => h.cell (by rw [cell_of_row _ _ _ _ _ _ HQ8.out]; rfl) (by simp)
  have Q1 : ∀ w', Keeps [] w8 w' → w'.cell? ⟨w7.heap.size, 1, none⟩ = some (.int .i64 e2) := fun w' h => h.cell (by rw [cell_of_row _ _ _ _ _ _ HQ8.out]; rfl) (by simp)
  have HR8 := Lib.hid (HR5.out.keeps0 (K57.out.trans K78 (by simp)))
  have HS8 := Lib.hid (HS5.out.keeps0 (K57.out.trans K78 (by simp)))
  have HK8 := Lib.hid (HK5.out.trans (K57.out.trans K78 (by simp)) (by simp))
  have D1 := Lib.hid (show doneR l5 e1 = doneR l3 e1 by rw [hl5.out, hl3.out])
  have D2 := Lib.hid (show doneR l7 e2 = doneR l4 e2 by rw [hl7.out, hl4.out])
  clear hw8 K78
  refine seq_start (by kernel_rfl) (fun x => Keeps [] w8 x) 28 [0, 1, 2, 3, 4, 5, 6, 7, 8, 9, 10, 11, 12, 13, 14, 15, 16, 17, 18, 19, 20, 21, 22, 23, 24, 25, 26, 27] rfl ((Keeps.refl [] w8).drew) (fun hS => ?_)
  refine seq_take (v := ?_) rfl (by kernel_rfl) (by kernel_rfl) (by kernel_rfl) (Or.inl ⟨by rfl, fun w' hSw => ?_⟩) (by assumption) ?_
  rotate_left
  · go_simp
    with_reducible rfl
  simp only [Act.put, List.setIfInBounds_toArray, List.set_cons_zero, List.set_cons_succ]
  refine seq_take (v := ?_) rfl (by kernel_rfl) (by kernel_rfl) (by kernel_rfl) (Or.inl ⟨by rfl, fun w' hSw => ?_⟩) (by assumption) ?_
  rotate_left
  · go_simp
    with_reducible rfl
  simp only [Act.put, List.setIfInBounds_toArray, List.set_cons_zero, List.set_cons_succ]
  refine seq_take (v := ?_) rfl (by kernel_rfl) (by kernel_rfl) (by kernel_rfl) (Or.inl ⟨by rfl, fun w' hSw => ?_⟩) (by assumption) ?_
  rotate_left
  · go_simp
    with_reducible rfl
  simp only [Act.put, List.setIfInBounds_toArray, List.set_cons_zero, List.set_cons_succ]
  refine seq_take (v := ?_) rfl (by kernel_rfl) (by kernel_rfl) (by kernel_rfl) (Or.inl ⟨by rfl, fun w' hSw => ?_⟩) (by assumption) ?_
  rotate_left
  · go_simp
    with_reducible rfl
  simp only [Act.put, List.setIfInBounds_toArray, List.set_cons_zero, List.set_cons_succ]
  refine seq_take (v := ?_) rfl (by kernel_rfl) (by kernel_rfl) (by kernel_rfl) (Or.inl ⟨by rfl, fun w' hSw => ?_⟩) (by assumption) ?_
  rotate_left
  · go_simp
    with_reducible rfl
  simp only [Act.put, List.setIfInBounds_toArray, List.set_cons_zero, List.set_cons_succ]
  refine seq_take (v := ?_) rfl (by kernel_rfl) (by kernel_rfl) (by kernel_rfl) (Or.inl ⟨by rfl, fun w' hSw => ?_⟩) (by assumption) ?_
  rotate_left
  · go_simp
    with_reducible rfl
  simp only [Act.put, List.setIfInBounds_toArray, List.set_cons_zero, List.set_cons_succ]
  refine seq_take (v := ?_) rfl (by kernel_rfl) (by kernel_rfl) (by kernel_rfl) (Or.inl ⟨by rfl, fun w' hSw => ?_⟩) (by assumption) ?_
  rotate_left
  · go_simp
    with_reducible rfl
  simp only [Act.put, List.setIfInBounds_toArray, List.set_cons_zero, List.set_cons_succ]
  refine seq_take (v := ?_) rfl (by kernel_rfl) (by kernel_rfl) (by kernel_rfl) (Or.inl ⟨by rfl, fun w' hSw => ?_⟩) (by assumption) ?_
  rotate_left
  · go_simp
    with_reducible rfl
  simp only [Act.put, List.setIfInBounds_toArray, List.set_cons_zero, List.set_cons_succ]
  refine seq_take (v := ?_) rfl (by kernel_rfl) (by kernel_rfl) (by kernel_rfl) (Or.inl ⟨by rfl, fun w' hSw => ?_⟩) (by assumption) ?_
  rotate_left
  · go_simp
    with_reducible rfl
  simp only [Act.put, List.setIfInBounds_toArray, List.set_cons_zero, List.set_cons_succ]
  refine seq_take (v := ?_) rfl (by kernel_rfl) (by kernel_rfl) (by kernel_rfl) (Or.inl ⟨by rfl, fun w' hSw => ?_⟩) (by assumption) ?_
  rotate_left
  · go_simp
    with_reducible rfl
  simp only [Act.put, List.setIfInBounds_toArray, List.set_cons_zero, List.set_cons_succ]
  iterate 2 (refine seq_later ?_; simp only [List.cons_append, List.nil_append])
  refine seq_take (v := ?_) rfl (by kernel_rfl) (by kernel_rfl) (by kernel_rfl) (Or.inl ⟨by rfl, fun w' hSw => ?_⟩) (by assumption) ?_
  rotate_left
  · go_simp
    with_reducible rfl
  simp only [Act.put, List.setIfInBounds_toArray, List.set_cons_zero, List.set_cons_succ]
  iterate 15 (refine seq_later ?_; simp only [List.cons_append, List.nil_append])
  refine seq_do rfl (by kernel_rfl) (by rfl) (fun K hK => ?_)
  go_simp
  refine (rddone_any _ A3 c3 l3 e1 _ (HR8.out.keeps0 (Keeps.refl [] w8).drew)).mono ?_
  rintro en w' ⟨rfl, rfl⟩
  refine hK.out (fun x => Keeps [] w8 x) _ _ (fun x h => h) hS (fun hS => ?_)
  refine seq_do rfl (by kernel_rfl) (by rfl) (fun K hK => ?_)
  go_simp
  refine (num_any _ _ (HG.out.keeps (HK8.out.drew) (by simp))).mono ?_
  rintro en w9 ⟨rfl, hk9⟩
  have K89 := Lib.hid hk9.undrew
  clear hk9
  refine hK.out (fun x => Keeps [] w8 x) _ _ (fun x h => h) K89.out (fun hS => ?_)
  refine seq_do rfl (by kernel_rfl) (by rfl) (fun K hK => ?_)
  go_simp
  refine (refdone_any A5 l5 c5 e1 _).mono ?_
  rw [D1.out]
  rintro en w10 ⟨rfl, hk10⟩
  have K810 := Lib.hid (K89.out.trans hk10 (by simp))
  clear hk10
  refine hK.out (fun x => Keeps [] w8 x) _ _ (fun x h => h) K810.out (fun hS => ?_)
  refine seq_take (v := ?_) rfl (by kernel_rfl) (by kernel_rfl) (by kernel_rfl) (Or.inl ⟨by rfl, fun w' hSw => ?_⟩) (by assumption) ?_
  rotate_left
  · go_simp
    with_reducible rfl
  simp only [Act.put, List.setIfInBounds_toArray, List.set_cons_zero, List.set_cons_succ]
  refine seq_take (v := ?_) rfl (by kernel_rfl) (by kernel_rfl) (by kernel_rfl) (Or.inl ⟨by rfl, fun w' hSw => ?_⟩) (by assumption) ?_
  rotate_left
  · go_simp
    with_reducible rfl
  simp only [Act.put, List.setIfInBounds_toArray, List.set_cons_zero, List.set_cons_succ]
  refine seq_take (v := ?_) rfl (by kernel_rfl) (by kernel_rfl) (by kernel_rfl) (Or.inl ⟨by rfl, fun w' hSw => ?_⟩) (by assumption) ?_
  rotate_left
  · go_simp
    with_reducible rfl
  simp only [Act.put, List.setIfInBounds_toArray, List.set_cons_zero, List.set_cons_succ]
  refine seq_take (v := ?_) rfl (by kernel_rfl) (by kernel_rfl) (by kernel_rfl) (Or.inl ⟨by rfl, fun w' hSw => ?_⟩) (by assumption) ?_
  rotate_left
  · go_simp
    with_reducible rfl
  simp only [Act.put, List.setIfInBounds_toArray, List.set_cons_zero, List.set_cons_succ]
  iterate 2 (refine seq_later ?_; simp only [List.cons_append, List.nil_append])
  refine seq_take (v := ?_) rfl (by kernel_rfl) (by kernel_rfl) (by kernel_rfl) (Or.inl ⟨by rfl, fun w' hSw => ?_⟩) (by assumption) ?_
  rotate_left
  · go_simp
    with_reducible rfl
  simp only [Act.put, List.setIfInBounds_toArray, List.set_cons_zero, List.set_cons_succ]
  iterate 7 (refine seq_later ?_; simp only [List.cons_append, List.nil_append])
  refine seq_do rfl (by kernel_rfl) (by rfl) (fun K hK => ?_)
  go_simp
  refine (rddone_any _ A4 c4 l4 e2 _ (HS8.out.keeps0 K810.out)).mono ?_
  rintro en w' ⟨rfl, rfl⟩
  refine hK.out (fun x => Keeps [] w8 x) _ _ (fun x h => h) hS (fun hS => ?_)
  refine seq_do rfl (by kernel_rfl) (by rfl) (fun K hK => ?_)
  go_simp
  refine (num_any _ _ (HG.out.keeps (HK8.out.trans K810.out (by simp)) (by simp))).mono ?_
  rintro en w11 ⟨rfl, hk11⟩
  have K811 := Lib.hid (K810.out.trans hk11 (by simp))
  clear hk11
  refine hK.out (fun x => Keeps [] w8 x) _ _ (fun x h => h) K811.out (fun hS => ?_)
  refine seq_do rfl (by kernel_rfl) (by rfl) (fun K hK => ?_)
  go_simp
  refine (refdone_any A7 l7 c7 e2 _).mono ?_
  rw [D2.out]
  rintro en w12 ⟨rfl, hk12⟩
  have K812 := Lib.hid (K811.out.trans hk12 (by simp))
  clear hk12
  refine hK.out (fun x => Keeps [] w8 x) _ _ (fun x h => h) K812.out (fun hS => ?_)
  refine seq_take (v := ?_) rfl (by kernel_rfl) (by kernel_rfl) (by kernel_rfl) (Or.inl ⟨by rfl, fun w' hSw => ?_⟩) (by assumption) ?_
  rotate_left
  · go_simp
    with_reducible rfl
  simp only [Act.put, List.setIfInBounds_toArray, List.set_cons_zero, List.set_cons_succ]
  refine seq_take (v := ?_) rfl (by kernel_rfl) (by kernel_rfl) (by kernel_rfl) (Or.inl ⟨by rfl, fun w' hSw => ?_⟩) (by assumption) ?_
  rotate_left
  · go_simp
    with_reducible rfl
  simp only [Act.put, List.setIfInBounds_toArray, List.set_cons_zero, List.set_cons_succ]
  refine seq_take (v := ?_) rfl (by kernel_rfl) (by kernel_rfl) (by kernel_rfl) (Or.inl ⟨by rfl, fun w' hSw => ?_⟩) (by assumption) ?_
  rotate_left
  · go_simp
    with_reducible rfl
  simp only [Act.put, List.setIfInBounds_toArray, List.set_cons_zero, List.set_cons_succ]
  refine seq_do rfl (by kernel_rfl) (by rfl) (fun K hK => ?_)
  go_simp
  refine (sure_any _).mono ?_
  rintro en w13 ⟨rfl, hk13⟩
  have K813 := Lib.hid (K812.out.trans hk13 (by simp))
  clear hk13
  refine hK.out (fun x => Keeps [] w8 x) _ _ (fun x h => h) K813.out (fun hS => ?_)
  refine seq_take (v := ?_) rfl (by kernel_rfl) (by kernel_rfl) (by kernel_rfl) (Or.inl ⟨by rfl, fun w' hSw => ?_⟩) (by assumption) ?_
  rotate_left
  · go_simp
    with_reducible rfl
  simp only [Act.put, List.setIfInBounds_toArray, List.set_cons_zero, List.set_cons_succ]
  refine seq_take (v := ?_) rfl (by kernel_rfl) (by kernel_rfl) (by kernel_rfl) (Or.inl ⟨by rfl, fun w' hSw => ?_⟩) (by assumption) ?_
  rotate_left
  · go_simp
    with_reducible rfl
  simp only [Act.put, List.setIfInBounds_toArray, List.set_cons_zero, List.set_cons_succ]
  refine seq_done (by kernel_rfl) ?_
  all_goals skip
  go_wp2_with fail
  go_ret
  exact ⟨rfl, KEEP.out _ (HK8.out.trans K813.out (by simp))⟩

theorem law_int (A : Option Addr) (l : List UInt8) (c : Nat) (most : Int) (w : World) (hg : HT w) (hl : l.length ≤ 140737488351232) (hc : l.length ≤ c) (hr : RdB w A l) (hm : 0 ≤ most ∧ most ≤ 18446744073709551615) :
    Calls Tryd.prog 3 #[.slice A l.length c, .int .u64 most] w fun e w' => e = .returned (.bool true) ∧ Below w.heap.size w w' := by
  obtain ⟨a, rfl⟩ : ∃ a : Nat, most = a := ⟨most.toNat, by omega⟩
  exact law_any A l c a w hg hl hc hr
end Go.Proofs.YtficgbeolmdbiaaDoor
