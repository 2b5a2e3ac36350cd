/- The law on the order of numbers: called with any two numbers it answers true. -/
import Derived.Test.YtficgbeolmdbiaaPackOrd
import Derived.Test.YtficgbeolmdbiaaPackRi
namespace Go.Proofs.Ytficgbeolmdbiaa
open Go.RowKit

theorem Keeps.wr {g : Nat} {w w1 w2 : World} {A : Option Addr} (hk : Keeps [] w w1) (hg : w.heap.size ≤ g) (h : Keeps (g :: blk A) w1 w2) (hA : ∀ a, A = some a → w.heap.size ≤ a.block) : Keeps [] w w2 :=
  hk.trans h (fun t ht => by
    rcases List.mem_cons.1 ht with rfl | ht
    · exact .inr hg
    · obtain ⟨a, e1, e2⟩ := mem_blk.1 ht
      rw [← e2]; exact .inr (hA a e1))
theorem sure_num : uintB 300 ++ [1] = [129, 44, 1] := by decide
theorem sure_int : intR [1, 4] 0 = ([], 0, -5) := by decide +kernel

set_option maxHeartbeats 1000000 in
theorem sure_any (w : World) : Calls Try.prog 9 #[] w fun e w' => e = .returned (.bool true) ∧ Keeps [] w w' := by
  go_enter Try.func9, Try.ntmps9
  go_wp2_with fail
  refine (new_any _).mono ?_
  rintro e w1 ⟨rfl, hw1, hk1⟩
  have HW1 := Lib.hid hw1
  have HK1 := Lib.hid hk1
  clear hw1 hk1
  go_wp2_with fail
  refine (uint_any 300 w.heap.size none 0 [] w1 (by omega) HW1.out (by simp)).mono ?_
  rintro e w2 ⟨A2, c2, o2, ho2, rfl, hw2, hk2, hn2⟩
  have HW2 := Lib.hid hw2
  have HK2 := Lib.hid (Keeps.wr HK1.out (Nat.le_refl _) hk2 (by simp))
  have HN2 := Lib.hid (show ∀ a, A2 = some a → w.heap.size ≤ a.block from fun a ha => by rcases hn2 a ha with h | h; simp [blk] at h; exact Nat.le_trans HK1.out.size h)
  have hl2 : o2.length ≤ 20 := by rw [ho2.out]; decide
  clear hw2 hk2 hn2
  go_wp2_with fail
  refine (bool_any true w.heap.size A2 c2 o2 w2 HW2.out (by omega)).mono ?_
  rintro e w3 ⟨A3, c3, o3, ho3, rfl, hw3, hk3, hn3⟩
  have HW3 := Lib.hid hw3
  have HK3 := Lib.hid (Keeps.wr HK2.out (Nat.le_refl _) hk3 HN2.out)
  have e3 : o3 = [129, 44, 1] := by rw [ho3.out, ho2.out]; exact sure_num
  subst e3
  clear hw3 hk3 hn3 ho3
  go_wp2_with fail
  refine (done_any w.heap.size A3 c3 [129, 44, 1] w3 HW3.out (by simp)).mono ?_
  rintro e w4 ⟨A4, c4, o4, ho4, rfl, hO4, hn4, hk4⟩
  have F4 := conv_keeps (P := Try.prog) (dst := 9) Try.underlying23 Try.underlying5 Try.underlying9 hO4.rd c4 w4 (Keeps.refl [] w4)
  have HK4 := Lib.hid (HK3.out.trans hk4 (by simp))
  have b4 : (strB o4).toList = [129, 44, 1] := by rw [strB_toList]; exact ho4.out
  clear hk4 hn4 hO4
  go_wp2_with fail
  refine (read_any (some ⟨w4.heap.size, 0, none⟩) [1, 4] 2 _ (by simp) (by simp) (RdB.lit w4 [1, 4] 5 (0, 0)) (fun a ha _ => by rw [← Option.some.inj ha]; simp)).mono ?_
  rintro e w5 ⟨rfl, hr5, hk5⟩
  rw [show (w4.alloc (.cells (encB [1, 4]).toArray 5 (0, 0))).heap.size = w4.heap.size + 1 by simp] at hr5
  have HR5 := Lib.hid hr5
  have HK5 := Lib.hid (HK4.out.trans (((Keeps.refl [] w4).alloc _).trans hk5 (by simp)) (by simp))
  have hz5 := HK4.out.size
  clear hr5 hk5
  go_wp2_with fail
  refine (rdint_spec (w4.heap.size + 1) _ _ [1, 4] 0 w5 HR5.out ([], 0, -5) sure_int).mono ?_
  rintro e w6 ⟨A6, c6, l6, hl6, rfl, hr6, hk6, hb6⟩
  have HK6 := Lib.hid (HK5.out.trans hk6 (fun t ht => .inr (by simp at ht; omega)))
  clear hr6 hk6 hb6
  go_wp2_with fail
  go_ret
  exact ⟨rfl, HK6.out⟩

/-- A number's bytes, by a new writer. -/
theorem lenle (n : Nat) : ((uintB n).length : Int) ≤ 9 := by have := length_uintB_le n; omega

set_option maxHeartbeats 4000000 in
theorem law_any (n m : Nat) (w : World) (hn : n < 18446744073709551616) (hm : m < 18446744073709551616) :
    Calls Try.prog 3 #[.int .u64 n, .int .u64 m] w fun e w' => e = .returned (.bool true) ∧ Below w.heap.size w w' := by
  have keep : ∀ w', Keeps [] w w' → Below w.heap.size w w' := fun w' h => h.below (Nat.le_refl _) (by simp)
  have KEEP := Lib.hid keep
  have LESS := Lib.hid (uint_less n m hn hm)
  clear keep
  go_enter Try.func3, Try.ntmps3
  go_wp2_with fail
  refine seq_start (by kernel_rfl) (fun x => Keeps [] w x) 12 [0, 1, 2, 3, 4, 5, 6, 7, 8, 9, 10, 11] rfl ((Keeps.refl [] w).drew) (fun hS => ?_)
  iterate 1 (refine seq_later ?_; simp only [List.cons_append, List.nil_append])
  refine seq_take (v := ?_) rfl (by kernel_rfl) (by kernel_rfl) (by kernel_rfl) (Or.inl ⟨by rfl, fun w' hSw => ?_⟩) (by assumption) ?_
  rotate_left
  · go_simp
    with_reducible rfl
  simp only [Act.put, List.setIfInBounds_toArray, List.set_cons_zero, List.set_cons_succ]
  iterate 4 (refine seq_later ?_; simp only [List.cons_append, List.nil_append])
  refine seq_take (v := ?_) rfl (by kernel_rfl) (by kernel_rfl) (by kernel_rfl) (Or.inl ⟨by rfl, fun w' hSw => ?_⟩) (by assumption) ?_
  rotate_left
  · go_simp
    with_reducible rfl
  simp only [Act.put, List.setIfInBounds_toArray, List.set_cons_zero, List.set_cons_succ]
  iterate 5 (refine seq_later ?_; simp only [List.cons_append, List.nil_append])
  refine seq_do rfl (by kernel_rfl) (by rfl) (fun K hK => ?_)
  go_simp
  refine (new_any _).mono ?_
  rintro e w1 ⟨rfl, hw1, hk1⟩
  have HW1 := Lib.hid hw1
  have HK1 := Lib.hid hk1.undrew
  clear hw1 hk1
  refine hK.out (fun x => Keeps [] w x) _ _ (fun x h => h) HK1.out (fun hS => ?_)
  refine seq_do rfl (by kernel_rfl) (by rfl) (fun K hK => ?_)
  go_simp
  refine (uint_any n w.heap.size none 0 [] w1 hn HW1.out (by simp)).mono ?_
  rintro e w2 ⟨A2, c2, o2, ho2, rfl, hw2, hk2, hn2⟩
  have HW2 := Lib.hid hw2
  have HK2 := Lib.hid (Keeps.wr HK1.out (Nat.le_refl _) hk2 (by simp))
  have l2 : o2.length ≤ 20 := by rw [ho2.out]; have := length_uintB_le n; simp only [List.nil_append]; omega
  clear hw2 hk2 hn2
  refine hK.out (fun x => Keeps [] w x) _ _ (fun x h => h) HK2.out (fun hS => ?_)
  refine seq_do rfl (by kernel_rfl) (by rfl) (fun K hK => ?_)
  go_simp
  refine (done_any w.heap.size A2 c2 o2 w2 HW2.out (by omega)).mono ?_
  rintro e w4 ⟨A4, c4, o4, ho4, rfl, hO4, hn4, hk4⟩
  have F4 := conv_keeps (P := Try.prog) (dst := 9) Try.underlying23 Try.underlying5 Try.underlying9 hO4.rd c4
  have HK4 := Lib.hid (HK2.out.trans hk4 (by simp))
  have E4 := Lib.hid (show o4 = uintB n by rw [ho4.out, ho2.out]; simp)
  clear hk4 hn4 hO4
  refine hK.out (fun x => Keeps [] w x ∧ Keeps [] w4 x) _ _ (fun x h => h.1) ⟨HK4.out, Keeps.refl [] w4⟩ (fun hS => ?_)
  refine seq_take (v := ?_) rfl (by kernel_rfl) (by kernel_rfl) (by kernel_rfl) (Or.inl ⟨by rfl, fun w' hSw => ?_⟩) (by assumption) ?_
  rotate_left
  · go_simp
    with_reducible rfl
  simp only [Act.put, List.setIfInBounds_toArray, List.set_cons_zero, List.set_cons_succ]
  refine seq_do rfl (by kernel_rfl) (by rfl) (fun K hK => ?_)
  go_simp
  refine (new_any _).mono ?_
  rintro e w5 ⟨rfl, hw5, hk5⟩
  have HW5 := Lib.hid hw5
  have HK5 := Lib.hid hk5
  clear hw5 hk5
  refine hK.out (fun x => Keeps [] w x ∧ Keeps [] w4 x) _ _ (fun x h => h) ⟨HK4.out.trans HK5.out (by simp), HK5.out⟩ (fun hS => ?_)
  refine seq_do rfl (by kernel_rfl) (by rfl) (fun K hK => ?_)
  go_simp
  refine (uint_any m w4.heap.size none 0 [] w5 hm HW5.out (by simp)).mono ?_
  rintro e w6 ⟨A6, c6, o6, ho6, rfl, hw6, hk6, hn6⟩
  have HW6 := Lib.hid hw6
  have HK6 := Lib.hid (Keeps.wr HK5.out (Nat.le_refl _) hk6 (by simp))
  have l6 : o6.length ≤ 20 := by rw [ho6.out]; have := length_uintB_le m; simp only [List.nil_append]; omega
  clear hw6 hk6 hn6
  refine hK.out (fun x => Keeps [] w x ∧ Keeps [] w4 x) _ _ (fun x h => h) ⟨HK4.out.trans HK6.out (by simp), HK6.out⟩ (fun hS => ?_)
  refine seq_do rfl (by kernel_rfl) (by rfl) (fun K hK => ?_)
  go_simp
  refine (done_any w4.heap.size A6 c6 o6 w6 HW6.out (by omega)).mono ?_
  rintro e w8 ⟨A8, c8, o8, ho8, rfl, hO8, hn8, hk8⟩
  have F8 := conv_keeps (P := Try.prog) (dst := 9) Try.underlying23 Try.underlying5 Try.underlying9 hO8.rd c8
  have HK8 := Lib.hid (HK6.out.trans hk8 (by simp))
  have E8 := Lib.hid (show o8 = uintB m by rw [ho8.out, ho6.out]; simp)
  clear hk8 hn8 hO8
  refine hK.out (fun x => (Keeps [] w x ∧ Keeps [] w4 x) ∧ Keeps [] w8 x) _ _ (fun x h => h.1) ⟨⟨HK4.out.trans HK8.out (by simp), HK8.out⟩, Keeps.refl [] w8⟩ (fun hS => ?_)
  refine seq_take (v := ?_) rfl (by kernel_rfl) (by kernel_rfl) (by kernel_rfl) (Or.inl ⟨by rfl, fun w' hSw => ?_⟩) (by assumption) ?_
  rotate_left
  · go_simp
    with_reducible rfl
  simp only [Act.put, List.setIfInBounds_toArray, List.set_cons_zero, List.set_cons_succ]
  refine seq_take (v := ?_) rfl (by kernel_rfl) (by kernel_rfl) (by kernel_rfl) (Or.inl ⟨by rfl, fun w' hSw => ?_⟩) (by assumption) ?_
  rotate_left
  · go_simp
    with_reducible rfl
  simp only [Act.put, List.setIfInBounds_toArray, List.set_cons_zero, List.set_cons_succ]
  refine seq_take (v := ?_) rfl (by kernel_rfl) (by kernel_rfl) (by kernel_rfl) (Or.inl ⟨by rfl, fun w' hSw => ?_⟩) (by assumption) ?_
  rotate_left
  · go_simp
    with_reducible rfl
  simp only [Act.put, List.setIfInBounds_toArray, List.set_cons_zero, List.set_cons_succ]
  refine seq_done (by kernel_rfl) ?_
  all_goals skip
  have HS := Lib.hid hS.1.1
  clear hS F4 F8
  have b1 : Op.bytesLess (strB o4).toList (strB o8).toList = decide (n < m) := by rw [strB_toList, strB_toList, E4.out, E8.out]; exact LESS.out
  have z4 : (strB o4).size = bh n + 1 := by rw [strB_size, E4.out]; simp
  have z8 : (strB o8).size = bh m + 1 := by rw [strB_size, E8.out]; simp
  have q4 : (bh n : Int) + 1 ≤ 9 := by have := bh_le n; omega
  by_cases hgt : (m : Int) < (n : Int)
  · have hlt : decide ((n : Int) < (m : Int)) = false := by simp; omega
    have hlt2 : decide (n < m) = false := by simp; omega
    rw [hlt2] at b1
    go_wp2_with fail
    refine (sure_any _).mono ?_
    rintro e w9 ⟨rfl, hk9⟩
    have HK9 := Lib.hid (HS.out.trans hk9 (by simp))
    clear hk9
    go_wp2_with fail
    go_ret
    exact ⟨rfl, KEEP.out _ HK9.out⟩
  · have hle : (bh n : Int) + 1 ≤ (bh m : Int) + 1 := by have := bh_mono (n := n) (m := m) (by omega); omega
    by_cases hlt : n < m
    · have hlt1 : decide ((n : Int) < (m : Int)) = true := by simp; omega
      have hlt2 : decide (n < m) = true := by simp; omega
      rw [hlt2] at b1
      go_wp2_with fail
      refine (sure_any _).mono ?_
      rintro e w9 ⟨rfl, hk9⟩
      have HK9 := Lib.hid (HS.out.trans hk9 (by simp))
      clear hk9
      go_wp2_with fail
      go_ret
      exact ⟨rfl, KEEP.out _ HK9.out⟩
    · have hlt1 : decide ((n : Int) < (m : Int)) = false := by simp; omega
      have hlt2 : decide (n < m) = false := by simp; omega
      rw [hlt2] at b1
      go_wp2_with fail
      refine (sure_any _).mono ?_
      rintro e w9 ⟨rfl, hk9⟩
      have HK9 := Lib.hid (HS.out.trans hk9 (by simp))
      clear hk9
      go_wp2_with fail
      go_ret
      exact ⟨rfl, KEEP.out _ HK9.out⟩
theorem law_int (n m : Int) (w : World) (hn : 0 ≤ n ∧ n ≤ 18446744073709551615) (hm : 0 ≤ m ∧ m ≤ 18446744073709551615) :
    Calls Try.prog 3 #[.int .u64 n, .int .u64 m] w fun e w' => e = .returned (.bool true) ∧ Below w.heap.size w w' := by
  obtain ⟨a, rfl⟩ : ∃ a : Nat, n = a := ⟨n.toNat, by omega⟩
  obtain ⟨b, rfl⟩ : ∃ b : Nat, m = b := ⟨m.toNat, by omega⟩
  exact law_any a b w (by omega) (by omega)
end Go.Proofs.Ytficgbeolmdbiaa
