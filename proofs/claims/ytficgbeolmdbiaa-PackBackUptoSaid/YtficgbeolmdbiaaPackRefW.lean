/- What the document's writer does: contracts. -/
import Derived.Test.YtficgbeolmdbiaaPackRefP
import Derived.Test.YtficgbeolmdbiaaPackOrd
import Derived.Test.YtficgbeolmdbiaaBytes
import Derived.Test.YtficgbeolmdbiaaStr
namespace Go.Proofs.Ytficgbeolmdbiaa
open Go.RowKit

theorem own02_any (A : Option Addr) (l : List UInt8) (c : Nat) (w : World) (hl : l.length ≤ 140737488355328) (hr : RdB w A l) :
    Calls Try.prog 41 #[.slice A l.length c] w (NewB 5 l w) := by
  have HR := Lib.hid hr
  clear hr
  go_enter Try.func41, Try.ntmps41
  go_wp2_with (at_builtin; refine wpList_appendB rfl (.tmp 4) (.tmp 5) 23 5 rfl Try.underlying23 infoB none 0 [] rfl (OwnB.nil _ _) A c l rfl HR.out (by simp <;> omega) ?_; intro A' c' w' l' hl' ho hk hb)
  go_ret
  refine ⟨A', c', l', hl', rfl, ho, fun a ha => ?_, hk⟩
  rcases hb a ha with h | h
  · simp [blk] at h
  · exact h

theorem be_drop (k n j : Nat) (hj : j < k) : (be k n).drop (k - (j + 1)) = UInt8.ofNat (n / 2 ^ (8 * j) % 256) :: (be k n).drop (k - j) := by
  have h : k - (j + 1) < (be k n).length := by simp; omega
  rw [List.drop_eq_getElem_cons h, show k - (j + 1) + 1 = k - j by omega]
  congr 1
  simp only [be, List.getElem_map, List.getElem_range]
  rw [show k - 1 - (k - (j + 1)) = j by omega]

set_option maxHeartbeats 1000000 in
theorem refuintw_any (A : Option Addr) (l : List UInt8) (c : Nat) (n : Nat) (w : World) (hl : l.length + 20 ≤ 140737488355328) (hr : RdB w A l) (hn : n < 18446744073709551616) :
    Calls Try.prog 29 #[.slice A l.length c, .int .u64 n] w (NewB 5 (l ++ uintB n) w) := by
  have HR := Lib.hid hr
  have hk8 := bh_le n
  clear hr
  go_enter Try.func29, Try.ntmps29
  go_wp2_with fail
  refine (pkmore_any n _).mono ?_
  rintro e w' ⟨rfl, rfl⟩
  obtain ⟨k, hk⟩ : ∃ k, k = bh n := ⟨_, rfl⟩
  rw [← hk] at hk8 ⊢
  have HK := Lib.hid hk
  clear hk
  go_wp2_with fail
  go_loopw [1, 6, 7] (fun nn d i wr => ∃ j : Nat, ∃ (A' : Option Addr) (c' : Nat) (dl : List UInt8), j ≤ k ∧ i = .int .i64 j ∧ nn = .int .u64 ((n / 2 ^ (8 * j) : Nat) : Int) ∧ d = .slice A' dl.length c' ∧ Hid (dl = (be k n).drop (k - j)) ∧ Hid (OwnB 5 wr A' c' dl) ∧ Hid (∀ a, A' = some a → w.heap.size ≤ a.block) ∧ Hid (Keeps [] w wr)) (fun _ _ i _ => k - (intOf i).toNat)
  case atStart => exact ⟨0, none, 0, [], by omega, rfl, by simp, rfl, by show _ = _; simp, OwnB.nil _ _, by show ∀ a, _; simp, Keeps.refl [] w⟩
  case round =>
    obtain ⟨j, A1, c1, dl, hj, rfl, rfl, rfl, hd, hO, hN, hK⟩ := hrel
    by_cases hlt : j < k
    · obtain ⟨m, hm⟩ : ∃ m, m = n / 2 ^ (8 * j) := ⟨_, rfl⟩
      rw [← hm]
      have hmn : m ≤ n := by rw [hm]; exact Nat.div_le_self _ _
      have hm64 : (m : Int) < 18446744073709551616 := by omega
      have hdl : dl.length ≤ 9 := by rw [hd.out]; simp; omega
      obtain ⟨b, hb⟩ : ∃ b : UInt8, b = UInt8.ofNat (m % 256) := ⟨_, rfl⟩
      have hbi : ((m : Int) % 256) = (b.toNat : Int) := by rw [hb, UInt8.toNat_ofNat', Nat.mod_mod]; simp
      have HM := Lib.hid hm
      have HB := Lib.hid hb
      clear hm hb hmn
      go_wp2_with (at_builtin; first
        | (refine wpList_appendB rfl (.tmp 16) (.tmp 20) 23 5 rfl Try.underlying23 infoB none 0 [] rfl (OwnB.nil _ _) (some ⟨wr.heap.size, 0, none⟩) 1 [b] rfl (RdB.lit wr [b] 5 (0, 0)) (by simp) ?_; intro A2 c2 w2 l2 hl2 ho2 hk2 hb2; have HO2 := Lib.hid ho2; have HK2 := Lib.hid hk2; have HB2 := Lib.hid hb2; have hl2l : l2.length ≤ 1 := by { rw [hl2.out]; simp }; clear ho2 hk2 hb2)
        | (refine wpList_appendB rfl (.tmp 21) (.tmp 22) 23 5 rfl Try.underlying23 infoB A2 c2 l2 rfl HO2.out A1 c1 dl rfl ((hO.out.rd.alloc _).keeps0 HK2.out) (by omega) ?_; intro A3 c3 w3 l3 hl3 ho3 hk3 hb3; have HO3 := Lib.hid ho3; have HK3 := Lib.hid hk3; have HB3 := Lib.hid hb3; clear ho3 hk3 hb3))
      have N2 : ∀ a, A2 = some a → w.heap.size ≤ a.block := fun a ha => by
        rcases HB2.out a ha with h | h
        · simp [blk] at h
        · have := hK.out.size; simp at h; omega
      have K2 : Keeps [] w w2 := (hK.out.alloc _).trans HK2.out (by simp [blk])
      go_roundw
      case rel =>
        refine ⟨j + 1, A3, c3, l3, by omega, by go_num, ?_, rfl, ?_, HO3.out, fresh_append HB3.out N2 K2.size, K2.fresh HK3.out N2⟩
        · have e : n / 2 ^ (8 * (j + 1)) = m / 256 := by rw [HM.out, Nat.div_div_eq_div_mul, show 8 * (j + 1) = 8 * j + 8 by omega, Nat.pow_add]
          rw [e]
          simp
        · show _ = _
          rw [hl3.out, hl2.out, hd.out, be_drop k n j hlt, HB.out, HM.out]
          simp
      case measure => simp [intOf]; omega
    · have hjk : j = k := by omega
      have hji : ¬ (j : Int) < (k : Int) := by omega
      obtain ⟨m, hm⟩ : ∃ m, m = n / 2 ^ (8 * j) := ⟨_, rfl⟩
      rw [← hm]
      obtain ⟨O, hO2⟩ : ∃ O, O = 256 - 2 ^ (8 - k) := ⟨_, rfl⟩
      obtain ⟨f1, _, f3⟩ := first_nat n hn
      rw [← HK.out, ← hjk, ← hm, hjk, ← hO2] at f1 f3
      obtain ⟨f, hf⟩ : ∃ f : UInt8, f = UInt8.ofNat (O + m) := ⟨_, rfl⟩
      rw [← hf] at f1
      have HAW := Lib.hid (show IntKind.u8.wrap ((O : Int) + (m : Int)) = (f.toNat : Int) by rw [IntKind.wrap_u8, f1]; omega)
      have HMW := Lib.hid (show IntKind.u8.wrap (m : Int) = (m : Int) by rw [IntKind.wrap_u8]; omega)
      have HFE := Lib.hid (show uintB n = f :: be k n by unfold uintB; rw [← HK.out, hf, hO2, hm, hjk])
      have HO2 := Lib.hid hO2
      have hdl : dl.length ≤ 9 := by rw [hd.out]; simp; omega
      have HDL := Lib.hid (show dl = be k n by rw [hd.out, hjk]; simp)
      clear hm hO2 f1 f3 hf hlt hjk hj
      go_wp2_with fail
      refine (own02_any A l c _ (by omega) (HR.out.keeps0 hK.out)).mono ?_
      rintro e w2 ⟨A2, c2, l2, hl2, rfl, ho2, hn2, hk2⟩
      obtain rfl : l2 = l := hl2.out
      have HO := Lib.hid ho2
      have N2 := Lib.hid (show ∀ a, A2 = some a → w.heap.size ≤ a.block from fun a ha => Nat.le_trans hK.out.size (hn2 a ha))
      have HD2 := Lib.hid (hO.out.rd.keeps0 hk2)
      have N2w := Lib.hid hn2
      have L1 := Lib.hid hO.out.lt
      have K2 := Lib.hid (hK.out.trans hk2 (by simp))
      clear ho2 hn2 hk2
      go_wp2_with fail
      refine (pkones_any k _ hk8).mono ?_
      rw [← HO2.out]
      rintro e w' ⟨rfl, rfl⟩
      have haw := HAW.out
      have hmw := HMW.out
      go_wp2_with (at_builtin; first
        | (refine wpList_appendB rfl (.tmp 27) (.tmp 33) 23 5 rfl Try.underlying23 infoB A2 c2 l2 rfl (HO.out.alloc _) (some ⟨w2.heap.size, 0, none⟩) 1 [f] rfl (RdB.lit w2 [f] 5 (0, 0)) (by simp; omega) ?_; intro A3 c3 w3 l3 hl3 ho3 hk3 hb3; have HO3 := Lib.hid ho3; have HK3 := Lib.hid hk3; have HB3 := Lib.hid hb3; have hl3b : l3.length ≤ l2.length + 1 := by { rw [hl3.out]; simp }; clear ho3 hk3 hb3)
        | (refine wpList_appendB rfl (.tmp 34) (.tmp 35) 23 5 rfl Try.underlying23 infoB A3 c3 l3 rfl HO3.out A1 c1 dl rfl ((HD2.out.alloc _).keeps HK3.out (fun a ha h hm => by { obtain ⟨a2, e2, e3⟩ := mem_blk.1 hm; have q1 := N2w.out a2 e2; have q2 := L1.out a ha; omega })) (by omega) ?_; intro A4 c4 w4 l4 hl4 ho4 hk4 hb4; have HO4 := Lib.hid ho4; have HK4 := Lib.hid hk4; have HB4 := Lib.hid hb4; clear ho4 hk4 hb4))
      go_ret
      have K3 := (K2.out.alloc (.cells #[.int .u8 (f.toNat : Int)] 5)).fresh HK3.out N2.out
      have N3 := fresh_append HB3.out N2.out (Nat.le_trans K2.out.size (by simp))
      refine ⟨A4, c4, l4, ?_, rfl, HO4.out, fresh_append HB4.out N3 K3.size, K3.fresh HK4.out N3⟩
      show _ = _
      rw [hl4.out, hl3.out, HDL.out, HFE.out]
      simp

theorem refboolw_any (A : Option Addr) (l : List UInt8) (c : Nat) (b : Bool) (w : World) (hl : l.length + 20 ≤ 140737488355328) (hr : RdB w A l) :
    Calls Try.prog 31 #[.slice A l.length c, .bool b] w (NewB 5 (l ++ [if b then 1 else 0]) w) := by
  have HR := Lib.hid hr
  clear hr
  cases b
  · go_enter Try.func31, Try.ntmps31
    go_wp2_with fail
    refine (own02_any A l c _ (by omega) HR.out).mono ?_
    rintro e w2 ⟨A2, c2, l2, hl2, rfl, ho2, hn2, hk2⟩
    obtain rfl : l2 = l := hl2.out
    have HO := Lib.hid ho2
    have N2 := Lib.hid hn2
    have K2 := Lib.hid hk2
    clear ho2 hn2 hk2
    go_wp2_with (at_builtin; refine wpList_appendB rfl (.tmp 11) (.tmp 12) 23 5 rfl Try.underlying23 infoB A2 c2 l2 rfl (HO.out.alloc _) (some ⟨w2.heap.size, 0, none⟩) 1 [0] rfl (RdB.lit w2 [0] 5 (0, 0)) (by simp; omega) ?_; intro A3 c3 w3 l3 hl3 ho3 hk3 hb3; have HO3 := Lib.hid ho3; have HK3 := Lib.hid hk3; have HB3 := Lib.hid hb3; clear ho3 hk3 hb3)
    go_ret
    exact ⟨A3, c3, l3, by show _ = _; rw [hl3.out], rfl, HO3.out, fresh_append HB3.out N2.out (Nat.le_trans K2.out.size (by simp)), (K2.out.alloc _).fresh HK3.out N2.out⟩
  · go_enter Try.func31, Try.ntmps31
    go_wp2_with fail
    refine (own02_any A l c _ (by omega) HR.out).mono ?_
    rintro e w2 ⟨A2, c2, l2, hl2, rfl, ho2, hn2, hk2⟩
    obtain rfl : l2 = l := hl2.out
    have HO := Lib.hid ho2
    have N2 := Lib.hid hn2
    have K2 := Lib.hid hk2
    clear ho2 hn2 hk2
    go_wp2_with (at_builtin; refine wpList_appendB rfl (.tmp 7) (.tmp 8) 23 5 rfl Try.underlying23 infoB A2 c2 l2 rfl (HO.out.alloc _) (some ⟨w2.heap.size, 0, none⟩) 1 [1] rfl (RdB.lit w2 [1] 5 (0, 0)) (by simp; omega) ?_; intro A3 c3 w3 l3 hl3 ho3 hk3 hb3; have HO3 := Lib.hid ho3; have HK3 := Lib.hid hk3; have HB3 := Lib.hid hb3; clear ho3 hk3 hb3)
    go_ret
    exact ⟨A3, c3, l3, by show _ = _; rw [hl3.out], rfl, HO3.out, fresh_append HB3.out N2.out (Nat.le_trans K2.out.size (by simp)), (K2.out.alloc _).fresh HK3.out N2.out⟩

theorem refbytesw_any (A : Option Addr) (l : List UInt8) (c : Nat) (A0 : Option Addr) (x : List UInt8) (c0 : Nat) (w : World) (hl : l.length + x.length + 20 ≤ 140737488355328) (hr : RdB w A l) (hx : RdB w A0 x) :
    Calls Try.prog 33 #[.slice A l.length c, .slice A0 x.length c0] w (NewB 5 (l ++ (uintB x.length ++ x)) w) := by
  have HR := Lib.hid hr
  have HX := Lib.hid hx
  clear hr hx
  go_enter Try.func33, Try.ntmps33
  go_wp2_with fail
  refine (refuintw_any A l c x.length _ (by omega) HR.out (by omega)).mono ?_
  rintro e w2 ⟨A2, c2, l2, hl2, rfl, ho2, hn2, hk2⟩
  have hlen2 : l2.length ≤ l.length + 9 := by rw [hl2.out]; have := length_uintB_le x.length; simp at this ⊢; omega
  have HO := Lib.hid ho2
  have N2 := Lib.hid hn2
  have K2 := Lib.hid hk2
  clear ho2 hn2 hk2
  go_wp2_with (at_builtin; refine wpList_appendB rfl (.tmp 9) (.tmp 10) 23 5 rfl Try.underlying23 infoB A2 c2 l2 rfl HO.out A0 c0 x rfl (HX.out.keeps0 K2.out) (by omega) ?_; intro A3 c3 w3 l3 hl3 ho3 hk3 hb3; have HO3 := Lib.hid ho3; have HK3 := Lib.hid hk3; have HB3 := Lib.hid hb3; clear ho3 hk3 hb3)
  go_ret
  exact ⟨A3, c3, l3, by show _ = _; rw [hl3.out, hl2.out]; simp, rfl, HO3.out, fresh_append HB3.out N2.out K2.out.size, K2.out.fresh HK3.out N2.out⟩

theorem reftextw_any (A : Option Addr) (l : List UInt8) (c : Nat) (x : List UInt8) (w : World) (hl : l.length + x.length + 20 ≤ 140737488355328) (hr : RdB w A l) :
    Calls Try.prog 32 #[.slice A l.length c, .string (strB x)] w (NewB 5 (l ++ (uintB x.length ++ x)) w) := by
  have HR := Lib.hid hr
  have hsz : (strB x).size = x.length := rfl
  clear hr
  go_enter Try.func32, Try.ntmps32
  go_wp2_with fail
  refine (refuintw_any A l c x.length _ (by omega) HR.out (by omega)).mono ?_
  rintro e w2 ⟨A2, c2, l2, hl2, rfl, ho2, hn2, hk2⟩
  have hlen2 : l2.length ≤ l.length + 9 := by rw [hl2.out]; have := length_uintB_le x.length; simp at this ⊢; omega
  have HO := Lib.hid ho2
  have N2 := Lib.hid hn2
  have K2 := Lib.hid hk2
  clear ho2 hn2 hk2
  go_wp2_with (at_builtin; refine wpList_appendS rfl (.tmp 9) (.tmp 10) 23 9 5 rfl Try.underlying23 Try.underlying9 infoB A2 c2 l2 rfl HO.out x rfl (by omega) ?_; intro A3 c3 w3 l3 hl3 ho3 hk3 hb3; have HO3 := Lib.hid ho3; have HK3 := Lib.hid hk3; have HB3 := Lib.hid hb3; clear ho3 hk3 hb3)
  go_ret
  exact ⟨A3, c3, l3, by show _ = _; rw [hl3.out, hl2.out]; simp, rfl, HO3.out, fresh_append HB3.out N2.out K2.out.size, K2.out.fresh HK3.out N2.out⟩
end Go.Proofs.Ytficgbeolmdbiaa
