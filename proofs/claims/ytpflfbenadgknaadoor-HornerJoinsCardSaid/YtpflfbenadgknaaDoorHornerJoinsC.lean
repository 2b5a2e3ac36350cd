/- The law on joins: called with any two texts and any three numbers it answers true. -/
import Derived.Test.YtpflfbenadgknaaDoorHornerJoin
import Derived.Test.YtpflfbenadgknaaDoorNum
import Derived.Test.YtpflfbenadgknaaDoorBytes
namespace Go.Proofs.YtpflfbenadgknaaDoor
open Go.RowKit

theorem sure_any (w : World) :
    Calls Tryd.prog 6 #[] w fun e w' => e = .returned (.bool true) ∧ Keeps [] w w' := by
  have kc := fun (w : World) (C : Array Value) (n c : Nat) => Lib.run_convert_bytes_const (P := Tryd.prog) w 22 5 C n c Tryd.underlying22 Tryd.underlying5
  have HR := Lib.hid (RdB.lit w [97, 98] 5 (2, 3))
  go_enter Tryd.func6, Tryd.ntmps6
  go_wp2_with fail
  refine (sum_any _ [97, 98] 2 _ (by simp) HR.out).mono ?_
  rintro e w' ⟨rfl, rfl⟩
  go_wp2_with fail
  refine (sum_any _ [] 0 _ (by simp) (RdB.nil _ _)).mono ?_
  rintro e w' ⟨rfl, rfl⟩
  go_wp2_with fail
  go_ret
  exact ⟨rfl, (Keeps.refl [] w).alloc _⟩

theorem own_any (A : Option Addr) (l : List UInt8) (c : Nat) (w : World) (hl : l.length ≤ 140737488351232) (hr : RdB w A l) :
    Calls Tryd.prog 7 #[.slice A l.length c] w (NewB 5 l w) := by
  have HR := Lib.hid hr
  clear hr
  go_enter Tryd.func7, Tryd.ntmps7
  go_wp2_with (at_builtin; refine wpList_appendB rfl (.tmp 4) (.tmp 5) 22 5 rfl Tryd.underlying22 infoB none 0 [] rfl (OwnB.nil _ _) A c l rfl HR.out (by simp <;> omega) ?_; intro A' c' w' l' hl' ho hk hb)
  go_ret
  refine ⟨A', c', l', hl', rfl, ho, fun a ha => ?_, hk⟩
  rcases hb a ha with h | h
  · simp [blk] at h
  · exact h

set_option maxHeartbeats 400000 in
theorem refjoin_any (a b : Int) (n : Nat) (w : World) (ha : 0 ≤ a ∧ a ≤ 4294967295) (hb : 0 ≤ b ∧ b ≤ 4294967295) (hn : n ≤ 9223372036854775807) :
    Calls Tryd.prog 11 #[.int .u32 a, .int .u32 b, .int .i64 n] w fun e w' => e = .returned (.tuple #[.int .u32 (hjoin a b n), .int .i64 0]) ∧ w = w' := by
  obtain ⟨ha1, ha2⟩ := ha
  obtain ⟨hb1, hb2⟩ := hb
  have hjr := hjoin_range a b n
  obtain ⟨x0, hx0⟩ := Int.eq_ofNat_of_zero_le (show 0 ≤ (a + 2147483646) % 2147483647 by omega)
  have hxl : x0 < 2147483647 := by omega
  have HX := Lib.hid hx0
  clear hx0
  go_enter Tryd.func11, Tryd.ntmps11
  go_wp2
  go_loop [8, 9] (fun x i => ∃ k y : Nat, k ≤ n ∧ i = .int .i64 k ∧ x = .int .u64 y ∧ Hid (y = x0 * hpw k % 2147483647) ∧ y < 2147483647) (fun _ i => n - (intOf i).toNat)
  case atStart => exact ⟨0, x0, Nat.zero_le _, rfl, by rw [HX.out], by show _ = _; simp [hpw, Nat.mod_eq_of_lt hxl], hxl⟩
  case round =>
    obtain ⟨k, y, hk, rfl, rfl, hy, hyl⟩ := hrel
    by_cases hlt : k < n
    · go_wp2
      go_round
      case rel =>
        refine ⟨k + 1, y * 257 % 2147483647, by omega, by go_num, by go_num, ?_, Nat.mod_lt _ (by omega)⟩
        show _ = _
        rw [hy.out, hpw_succ, Nat.mul_mod, Nat.mod_mod, ← Nat.mul_mod, Nat.mul_mod x0, Nat.mod_mod, ← Nat.mul_mod, Nat.mul_assoc]
      case measure => simp [intOf]; omega
    · obtain rfl : k = n := by omega
      go_wp2
      go_ret2
      refine ⟨?_, rfl⟩
      show Ending.returned (.tuple #[.int .u32 (((y : Int) + b) % 2147483647), .int .i64 0]) = _
      have e : ((y : Int) + b) % 2147483647 = hjoin a b k := by
        have h1 := hy.out
        unfold hjoin
        rw [HX.out, ← Int.natCast_mul]
        generalize x0 * hpw k = z at h1
        omega
      rw [e]

theorem refjoin_neg (a b n : Int) (w : World) (hn : n < 0) :
    Calls Tryd.prog 11 #[.int .u32 a, .int .u32 b, .int .i64 n] w fun e w' => e = .returned (.tuple #[.int .u32 0, .int .i64 1]) ∧ w = w' := by
  go_enter Tryd.func11, Tryd.ntmps11
  go_wp2
  go_ret2
  exact ⟨rfl, rfl⟩

set_option maxHeartbeats 2000000 in
theorem law_any (A : Option Addr) (a : List UInt8) (ca : Nat) (B : Option Addr) (b : List UInt8) (cb : Nat) (x0 x1 x2 : Int) (w : World) (hg : HT w)
    (ha : a.length ≤ 140737488351232) (hb : b.length ≤ 140737488351232) (hra : RdB w A a) (hrb : RdB w B b)
    (h2 : -9223372036854775808 ≤ x2 ∧ x2 ≤ 9223372036854775807) :
    Calls Tryd.prog 3 #[.slice A a.length ca, .slice B b.length cb, .agg #[.int .i64 x0, .int .i64 x1, .int .i64 x2]] w fun e w' => e = .returned (.bool true) ∧ Below w.heap.size w w' := by
  have HA := Lib.hid hra
  have HB := Lib.hid hrb
  have HG := Lib.hid hg
  clear hra hrb hg
  obtain ⟨h21, h22⟩ := h2
  have keep : ∀ w', Keeps [] w w' → Below w.heap.size w w' := fun w' h => h.below (Nat.le_refl _) (by simp)
  have KEEP := Lib.hid keep
  clear keep
  by_cases hlt : (20000 : Int) < a.length + b.length
  · go_enter Tryd.func3, Tryd.ntmps3
    go_wp2_with fail
    refine (sure_any _).mono ?_
    rintro e w' ⟨rfl, hb⟩
    go_wp2_with fail
    go_ret
    exact ⟨rfl, KEEP.out _ (((Keeps.refl [] w).alloc _).trans hb (by simp))⟩
  · go_enter Tryd.func3, Tryd.ntmps3
    go_wp2_with fail
    refine (own_any A a ca _ (by omega) (HA.out.alloc _)).mono ?_
    rintro e w1 ⟨A1, c1, l1, hl1, rfl, ho1, hn1, hk1⟩
    have hla : l1.length = a.length := by rw [hl1.out]
    have hb1 : l1.length + b.length ≤ 20000 := by omega
    have HO1 := Lib.hid ho1
    have HRB1 := Lib.hid ((HB.out.alloc (.cells #[.int .i64 x0, .int .i64 x1, .int .i64 x2] 23)).keeps0 hk1)
    clear ho1 hla
    go_wp2_with (at_builtin; refine wpList_appendB rfl (.tmp 22) (.tmp 23) 22 5 rfl Tryd.underlying22 infoB A1 c1 l1 rfl HO1.out B cb b rfl HRB1.out (by omega) ?_; intro A2 c2 w2 l2 hl2 ho2 hk2 hn2)
    have HRB2 := Lib.hid (HRB1.out.keeps hk2 (fun ad e h => by
      intro hm
      obtain ⟨a1, e1, e2⟩ := mem_blk.1 hm
      have := hn1 a1 e1
      have hlt := Rd.lt HB.out (by simpa using h) e
      simp at this
      omega))
    have hkA : Keeps [] w w1 := ((Keeps.refl [] w).alloc (.cells #[.int .i64 x0, .int .i64 x1, .int .i64 x2] 23)).trans hk1 (by simp)
    have hkB : Keeps [] w w2 := hkA.trans hk2 (fun t ht => by
      obtain ⟨a1, e1, e2⟩ := mem_blk.1 ht
      have := hn1 a1 e1
      simp at this
      exact .inr (by omega))
    have HK2 := Lib.hid hkB
    have HRA2 := Lib.hid (HA.out.keeps0 hkB)
    have HR2 := Lib.hid ho2.rd
    have hl2' : l2.length ≤ 20000 := by rw [hl2.out]; simp; omega
    have HG2 := Lib.hid (HG.out.keeps hkB (by simp))
    have hbox : w2.heap[w.heap.size]? = some (.cells #[.int .i64 x0, .int .i64 x1, .int .i64 x2] 23 (0, 0)) := by
      rw [hk2.block w.heap.size (by have := hk1.size; simp at this; omega) (by
        intro hm
        obtain ⟨a1, e1, e2⟩ := mem_blk.1 hm
        have := hn1 a1 e1
        simp at this
        omega), hk1.block w.heap.size (by simp) (by simp)]
      exact heap_alloc_new w _
    have q0 := (cell_of_row w2 _ 0 _ _ _ hbox).trans (show _ = some (.int .i64 x0) from rfl)
    have q1 := (cell_of_row w2 _ 1 _ _ _ hbox).trans (show _ = some (.int .i64 x1) from rfl)
    have q2 := (cell_of_row w2 _ 2 _ _ _ hbox).trans (show _ = some (.int .i64 x2) from rfl)
    clear hbox
    clear hk1 hk2 hkA hkB ho2 hn1 hn2
    refine (sum_any A a ca _ (by omega) HRA2.out).mono ?_
    rintro e w' ⟨rfl, rfl⟩
    go_wp2_with fail
    refine (sum_any B b cb _ (by omega) HRB2.out).mono ?_
    rintro e w' ⟨rfl, rfl⟩
    go_wp2_with fail
    have r1 := hmore_range 1 a (by omega)
    have r2 := hmore_range 1 b (by omega)
    refine (join_any (hmore 1 a) (hmore 1 b) b.length _ (by omega) (by omega) (by omega)).mono ?_
    rintro e w' ⟨rfl, rfl⟩
    have e1 : Hid (hjoin (hmore 1 a) (hmore 1 b) b.length = hmore 1 l2) := by
      show _ = _
      rw [hjoin_more _ r1, hl2.out, hl1.out, hmore_append]
    rw [e1.out]
    go_wp2_with fail
    refine (sum_any A2 l2 c2 _ (by omega) HR2.out).mono ?_
    rintro e w' ⟨rfl, rfl⟩
    go_wp2_with fail
    refine (sum_any A a ca _ (by omega) HRA2.out).mono ?_
    rintro e w' ⟨rfl, rfl⟩
    go_wp2_with fail
    refine (more_any (hmore 1 a) B b cb _ (by omega) (by omega) HRB2.out).mono ?_
    rintro e w' ⟨rfl, rfl⟩
    have e2 : Hid (hmore (hmore 1 a % 2147483647) b = hmore 1 l2) := by
      show _ = _
      rw [Int.emod_eq_of_lt r1.1 r1.2, hl2.out, hl1.out, hmore_append]
    rw [e2.out]
    clear e1 e2
    by_cases hx5 : (5000 : Int) < x2
    · go_wp2_with fail
      refine (sure_any _).mono ?_
      rintro e w3 ⟨rfl, hk3⟩
      go_wp2_with fail
      go_ret
      exact ⟨rfl, KEEP.out _ (HK2.out.trans hk3 (by simp))⟩
    · by_cases hx0 : x2 < 0
      · go_wp2_with fail
        refine (join_neg _ _ x2 _ hx0).mono ?_
        rintro e w' ⟨rfl, rfl⟩
        go_wp2_with fail
        refine (refjoin_neg _ _ x2 _ hx0).mono ?_
        rintro e w' ⟨rfl, rfl⟩
        go_wp2_with fail
        refine (num_err 1 _ HG2.out).mono ?_
        rintro e w3 ⟨rfl, hk3⟩
        go_wp2_with fail
        refine (sure_any _).mono ?_
        rintro e w4 ⟨rfl, hk4⟩
        go_wp2_with fail
        go_ret
        exact ⟨rfl, KEEP.out _ ((HK2.out.trans hk3 (by simp)).trans hk4 (by simp))⟩
      · obtain ⟨n, rfl⟩ := Int.eq_ofNat_of_zero_le (show 0 ≤ x2 by omega)
        go_wp2_with fail
        refine (join_any (x0 % 4294967296) (x1 % 4294967296) n _ (by omega) (by omega) (by omega)).mono ?_
        rintro e w' ⟨rfl, rfl⟩
        go_wp2_with fail
        refine (refjoin_any (x0 % 4294967296) (x1 % 4294967296) n _ (by omega) (by omega) (by omega)).mono ?_
        rintro e w' ⟨rfl, rfl⟩
        go_wp2_with fail
        refine (num_nil _).mono ?_
        rintro e w3 ⟨rfl, hk3⟩
        go_wp2_with fail
        refine (sure_any _).mono ?_
        rintro e w4 ⟨rfl, hk4⟩
        go_wp2_with fail
        go_ret
        exact ⟨rfl, KEEP.out _ ((HK2.out.trans hk3 (by simp)).trans hk4 (by simp))⟩
end Go.Proofs.YtpflfbenadgknaaDoor
