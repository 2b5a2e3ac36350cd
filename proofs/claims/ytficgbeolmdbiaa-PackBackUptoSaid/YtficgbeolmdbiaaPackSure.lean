/- What the law asks of the program ahead of all else. -/
import Derived.Test.YtficgbeolmdbiaaPackRi
namespace Go.Proofs.Ytficgbeolmdbiaa
open Go.RowKit

theorem Keeps.wr {g : Nat} {w w1 w2 : World} {A : Option Addr} (hk : Keeps [] w w1) (hg : w.heap.size ≤ g) (h : Keeps (g :: blk A) w1 w2) (hA : ∀ a, A = some a → w.heap.size ≤ a.block) : Keeps [] w w2 :=
  hk.trans h (fun t ht => by
    rcases List.mem_cons.1 ht with rfl | ht
    · exact .inr hg
    · obtain ⟨a, e1, e2⟩ := mem_blk.1 ht
      rw [← e2]; exact .inr (hA a e1))
theorem sure_num : uintB 300 ++ [1] = [129, 44, 1] := by decide
theorem sure_int : intR [1, 4] 0 = ([], 0, -5) := by decide +kernel

set_option maxHeartbeats 1000000 in
theorem sure_any (w : World) : Calls Try.prog 9 #[] w fun e w' => e = .returned (.bool true) ∧ Keeps [] w w' := by
  go_enter Try.func9, Try.ntmps9
  go_wp2_with fail
  refine (new_any _).mono ?_
  rintro e w1 ⟨rfl, hw1, hk1⟩
  have HW1 := Lib.hid hw1
  have HK1 := Lib.hid hk1
  clear hw1 hk1
  go_wp2_with fail
  refine (uint_any 300 w.heap.size none 0 [] w1 (by omega) HW1.out (by simp)).mono ?_
  rintro e w2 ⟨A2, c2, o2, ho2, rfl, hw2, hk2, hn2⟩
  have HW2 := Lib.hid hw2
  have HK2 := Lib.hid (Keeps.wr HK1.out (Nat.le_refl _) hk2 (by simp))
  have HN2 := Lib.hid (show ∀ a, A2 = some a → w.heap.size ≤ a.block from fun a ha => by rcases hn2 a ha with h | h; simp [blk] at h; exact Nat.le_trans HK1.out.size h)
  have hl2 : o2.length ≤ 20 := by rw [ho2.out]; decide
  clear hw2 hk2 hn2
  go_wp2_with fail
  refine (bool_any true w.heap.size A2 c2 o2 w2 HW2.out (by omega)).mono ?_
  rintro e w3 ⟨A3, c3, o3, ho3, rfl, hw3, hk3, hn3⟩
  have HW3 := Lib.hid hw3
  have HK3 := Lib.hid (Keeps.wr HK2.out (Nat.le_refl _) hk3 HN2.out)
  have e3 : o3 = [129, 44, 1] := by rw [ho3.out, ho2.out]; exact sure_num
  subst e3
  clear hw3 hk3 hn3 ho3
  go_wp2_with fail
  refine (done_any w.heap.size A3 c3 [129, 44, 1] w3 HW3.out (by simp)).mono ?_
  rintro e w4 ⟨A4, c4, o4, ho4, rfl, hO4, hn4, hk4⟩
  have F4 := conv_keeps (P := Try.prog) (dst := 9) Try.underlying23 Try.underlying5 Try.underlying9 hO4.rd c4 w4 (Keeps.refl [] w4)
  have HK4 := Lib.hid (HK3.out.trans hk4 (by simp))
  have b4 : (strB o4).toList = [129, 44, 1] := by rw [strB_toList]; exact ho4.out
  clear hk4 hn4 hO4
  go_wp2_with fail
  refine (read_any (some ⟨w4.heap.size, 0, none⟩) [1, 4] 2 _ (by simp) (by simp) (RdB.lit w4 [1, 4] 5 (0, 0)) (fun a ha _ => by rw [← Option.some.inj ha]; simp)).mono ?_
  rintro e w5 ⟨rfl, hr5, hk5⟩
  rw [show (w4.alloc (.cells (encB [1, 4]).toArray 5 (0, 0))).heap.size = w4.heap.size + 1 by simp] at hr5
  have HR5 := Lib.hid hr5
  have HK5 := Lib.hid (HK4.out.trans (((Keeps.refl [] w4).alloc _).trans hk5 (by simp)) (by simp))
  have hz5 := HK4.out.size
  clear hr5 hk5
  go_wp2_with fail
  refine (rdint_spec (w4.heap.size + 1) _ _ [1, 4] 0 w5 HR5.out ([], 0, -5) sure_int).mono ?_
  rintro e w6 ⟨A6, c6, l6, hl6, rfl, hr6, hk6, hb6⟩
  have HK6 := Lib.hid (HK5.out.trans hk6 (fun t ht => .inr (by simp at ht; omega)))
  clear hr6 hk6 hb6
  go_wp2_with fail
  go_ret
  exact ⟨rfl, HK6.out⟩

end Go.Proofs.Ytficgbeolmdbiaa
