/- More of what the document's writer does: contracts. -/
import Derived.Test.YtficgbeolmdbiaaPackRefW
import Derived.Test.YtficgbeolmdbiaaPackWr
namespace Go.Proofs.Ytficgbeolmdbiaa
open Go.RowKit

set_option maxHeartbeats 1000000 in
theorem refintw_any (A : Option Addr) (l : List UInt8) (c : Nat) (n : Int) (h1 : -9223372036854775808 ≤ n) (h2 : n ≤ 9223372036854775807) (w : World) (hl : l.length + 40 ≤ 140737488355328) (hr : RdB w A l) :
    Calls Try.prog 30 #[.slice A l.length c, .int .i64 n] w (NewB 5 (l ++ intB n) w) := by
  have HR := Lib.hid hr
  clear hr
  by_cases hn : n < 0
  · obtain ⟨m, hm⟩ : ∃ m : Nat, (m : Int) = -(n + 1) := ⟨(-(n + 1)).toNat, by omega⟩
    have HM := Lib.hid (show intB n = 1 :: uintB m by unfold intB; rw [if_pos hn, ← hm]; rfl)
    have hm0 : m < 9223372036854775808 := by omega
    have hng : IntKind.i64.wrap (-(n + 1)) = (m : Int) := by rw [IntKind.wrap_i64]; omega
    have hm1 : IntKind.u64.wrap (m : Int) = (m : Int) := by rw [IntKind.wrap_u64]; omega
    clear hm
    go_enter Try.func30, Try.ntmps30
    go_wp2_with fail
    refine (own02_any A l c _ (by omega) HR.out).mono ?_
    rintro e w2 ⟨A2, c2, l2, hl2, rfl, ho2, hn2, hk2⟩
    obtain rfl : l2 = l := hl2.out
    have HO := Lib.hid ho2
    have N2 := Lib.hid hn2
    have K2 := Lib.hid hk2
    clear ho2 hn2 hk2
    go_wp2_with (at_builtin; refine wpList_appendB rfl (.tmp 8) (.tmp 9) 23 5 rfl Try.underlying23 infoB A2 c2 l2 rfl (HO.out.alloc _) (some ⟨w2.heap.size, 0, none⟩) 1 [1] rfl (RdB.lit w2 [1] 5 (0, 0)) (by simp; omega) ?_; intro A3 c3 w3 l3 hl3 ho3 hk3 hb3; have HO3 := Lib.hid ho3; have HK3 := Lib.hid hk3; have HB3 := Lib.hid hb3; clear ho3 hk3 hb3)
    have K3 := Lib.hid ((K2.out.alloc (.cells #[.int .u8 1] 5)).fresh HK3.out N2.out)
    have hl3b : l3.length ≤ l2.length + 1 := by rw [hl3.out]; simp
    refine (refuintw_any A3 l3 c3 m _ (by omega) HO3.out.rd (by omega)).mono ?_
    rintro e w4 ⟨A4, c4, l4, hl4, rfl, ho4, hn4, hk4⟩
    go_wp2_with fail
    go_ret
    exact ⟨A4, c4, l4, by show _ = _; rw [hl4.out, hl3.out, HM.out]; simp, rfl, ho4, fun a ha => Nat.le_trans K3.out.size (hn4 a ha), K3.out.trans hk4 (by simp)⟩
  · obtain ⟨m, hm⟩ : ∃ m : Nat, (m : Int) = n := ⟨n.toNat, by omega⟩
    have HM := Lib.hid (show intB n = 0 :: uintB m by unfold intB; rw [if_neg hn, ← hm]; rfl)
    subst hm
    have hm1 : IntKind.u64.wrap (m : Int) = (m : Int) := by rw [IntKind.wrap_u64]; omega
    go_enter Try.func30, Try.ntmps30
    go_wp2_with fail
    refine (own02_any A l c _ (by omega) HR.out).mono ?_
    rintro e w2 ⟨A2, c2, l2, hl2, rfl, ho2, hn2, hk2⟩
    obtain rfl : l2 = l := hl2.out
    have HO := Lib.hid ho2
    have N2 := Lib.hid hn2
    have K2 := Lib.hid hk2
    clear ho2 hn2 hk2
    go_wp2_with (at_builtin; refine wpList_appendB rfl (.tmp 17) (.tmp 18) 23 5 rfl Try.underlying23 infoB A2 c2 l2 rfl (HO.out.alloc _) (some ⟨w2.heap.size, 0, none⟩) 1 [0] rfl (RdB.lit w2 [0] 5 (0, 0)) (by simp; omega) ?_; intro A3 c3 w3 l3 hl3 ho3 hk3 hb3; have HO3 := Lib.hid ho3; have HK3 := Lib.hid hk3; have HB3 := Lib.hid hb3; clear ho3 hk3 hb3)
    have K3 := Lib.hid ((K2.out.alloc (.cells #[.int .u8 0] 5)).fresh HK3.out N2.out)
    have hl3b : l3.length ≤ l2.length + 1 := by rw [hl3.out]; simp
    refine (refuintw_any A3 l3 c3 m _ (by omega) HO3.out.rd (by omega)).mono ?_
    rintro e w4 ⟨A4, c4, l4, hl4, rfl, ho4, hn4, hk4⟩
    go_wp2_with fail
    go_ret
    exact ⟨A4, c4, l4, by show _ = _; rw [hl4.out, hl3.out, HM.out]; simp, rfl, ho4, fun a ha => Nat.le_trans K3.out.size (hn4 a ha), K3.out.trans hk4 (by simp)⟩

theorem refprintw_any (A : Option Addr) (l : List UInt8) (c : Nat) (x : List UInt8) (h32 : x.length = 32) (w : World) (hl : l.length + 40 ≤ 140737488355328) (hr : RdB w A l) :
    Calls Try.prog 34 #[.slice A l.length c, .agg (encB x).toArray] w (NewB 5 (l ++ x) w) := by
  have HR := Lib.hid hr
  have HX := Lib.hid (RdB.lit w x 33 (0, 0))
  clear hr
  go_enter Try.func34, Try.ntmps34
  go_wp2_with fail
  refine seq_start (by kernel_rfl) (fun x => True) 5 [0, 1, 2, 3, 4] rfl (trivial) (fun hS => ?_)
  refine seq_take (v := ?_) rfl (by kernel_rfl) (by kernel_rfl) (by kernel_rfl) (Or.inl ⟨by rfl, fun w' hSw => ?_⟩) (by assumption) ?_
  rotate_left
  · go_simp
    with_reducible rfl
  simp only [Act.put, List.setIfInBounds_toArray, List.set_cons_zero, List.set_cons_succ]
  iterate 1 (refine seq_later ?_; simp only [List.cons_append, List.nil_append])
  refine seq_take (v := ?_) rfl (by kernel_rfl) (by kernel_rfl) (by kernel_rfl) (Or.inl ⟨by rfl, fun w' hSw => ?_⟩) (by assumption) ?_
  rotate_left
  · go_simp
    with_reducible rfl
  simp only [Act.put, List.setIfInBounds_toArray, List.set_cons_zero, List.set_cons_succ]
  iterate 2 (refine seq_later ?_; simp only [List.cons_append, List.nil_append])
  refine seq_do rfl (by kernel_rfl) (by rfl) (fun K hK => ?_)
  go_simp
  refine (own02_any A l c _ (by omega) (HR.out.alloc _).drew).mono ?_
  rintro e w2 ⟨A2, c2, l2, hl2, rfl, ho2, hn2, hk2⟩
  obtain rfl : l2 = l := hl2.out
  have HO := Lib.hid ho2
  have N2 := Lib.hid (show ∀ a, A2 = some a → w.heap.size ≤ a.block from fun a ha => by have := hn2 a ha; simp at this; omega)
  have K2 := Lib.hid ((Keeps.refl [] w).alloc (.cells (encB x).toArray 33) |>.drew.trans hk2 (by simp))
  have HX2 := Lib.hid (HX.out.keeps0 hk2.undrew)
  clear ho2 hn2 hk2
  refine hK.out (fun x => True) _ _ (fun x h => h) trivial (fun hS => ?_)
  refine seq_do rfl (by kernel_rfl) (by rfl) (fun K hK => ?_)
  refine op_appendB (.tmp 6) (.tmp 7) 23 5 rfl Try.underlying23 infoB A2 c2 l2 rfl HO.out (some ⟨w.heap.size, 0, none⟩) 32 x (by rw [h32]; rfl) HX2.out (by omega) ?_
  intro A3 c3 w3 l3 hl3 ho3 hk3 hb3
  have HO3 := Lib.hid ho3
  have HK3 := Lib.hid hk3
  have HB3 := Lib.hid hb3
  clear ho3 hk3 hb3
  refine hK.out (fun x => True) _ _ (fun x h => h) trivial (fun hS => ?_)
  refine seq_take (v := ?_) rfl (by kernel_rfl) (by kernel_rfl) (by kernel_rfl) (Or.inl ⟨by rfl, fun w' hSw => ?_⟩) (by assumption) ?_
  rotate_left
  · go_simp
    with_reducible rfl
  simp only [Act.put, List.setIfInBounds_toArray, List.set_cons_zero, List.set_cons_succ]
  refine seq_done (by kernel_rfl) ?_
  all_goals skip
  go_wp2_with fail
  go_ret
  exact ⟨A3, c3, l3, by show _ = _; rw [hl3.out], rfl, HO3.out, fresh_append HB3.out N2.out K2.out.size, K2.out.fresh HK3.out N2.out⟩
end Go.Proofs.Ytficgbeolmdbiaa
