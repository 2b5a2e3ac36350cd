/- The law on numbers that end early, or are longer than they need be: called with any number it answers true. -/
import Derived.Test.YtficgbeolmdbiaaDoorPackOrd
import Derived.Test.YtficgbeolmdbiaaDoorPackSure
import Derived.Test.YtficgbeolmdbiaaDoorPackRe
import Derived.Test.YtficgbeolmdbiaaDoorNum
namespace Go.Proofs.YtficgbeolmdbiaaDoor
open Go.RowKit

theorem numB_short (n : Nat) (hn : n < 18446744073709551616) : numB ((uintB n).take (bh n)) = (0, 0, 12) := by
  rcases Nat.eq_zero_or_pos (bh n) with h | h
  · rw [h]; rfl
  · unfold uintB
    rw [show bh n = (bh n - 1) + 1 by omega, List.take_succ_cons]
    rw [show (bh n - 1) + 1 = bh n by omega, numB_cons, lead_uint n hn, if_pos (by simp; omega)]
theorem uintR_short (n : Nat) (hn : n < 18446744073709551616) : uintR 18446744073709551615 ((uintB n).take (bh n)) 0 = ((uintB n).take (bh n), 12, 0) := by
  unfold uintR bnd
  rw [if_neg (by simp), numB_short n hn, if_pos (by decide)]

/-- The bits that a first byte begins with. -/
def hb (i : Nat) : Nat := 256 - 2 ^ (8 - i)
theorem hb_succ {i : Nat} (h : i < 8) : hb i + 2 ^ (7 - i) = hb (i + 1) := by
  have hs : i = 0 ∨ i = 1 ∨ i = 2 ∨ i = 3 ∨ i = 4 ∨ i = 5 ∨ i = 6 ∨ i = 7 := by omega
  rcases hs with rfl | rfl | rfl | rfl | rfl | rfl | rfl | rfl <;> decide
theorem hb_le (i : Nat) : hb i ≤ 256 := Nat.sub_le _ _
theorem hb_lead {i : Nat} (h : i ≤ 8) : lead (UInt8.ofNat (hb i)) = i ∧ tail (UInt8.ofNat (hb i)) = 0 := by
  have hs : i = 0 ∨ i = 1 ∨ i = 2 ∨ i = 3 ∨ i = 4 ∨ i = 5 ∨ i = 6 ∨ i = 7 ∨ i = 8 := by omega
  rcases hs with rfl | rfl | rfl | rfl | rfl | rfl | rfl | rfl | rfl <;> decide +kernel
/-- The same number, with one byte more. -/
def longB (n : Nat) : List UInt8 := UInt8.ofNat (hb (bh n + 1)) :: UInt8.ofNat (n / 2 ^ (8 * bh n)) :: be (bh n) n
theorem numB_long (n : Nat) (h7 : bh n < 7) : numB (longB n) = (0, 0, 3) := by
  have hq := bh_top n (by omega)
  have h2 : (2 : Nat) ^ (7 - bh n) ≤ 128 := Nat.pow_le_pow_right (by omega) (show 7 - bh n ≤ 7 by omega)
  obtain ⟨e1, e2⟩ := hb_lead (i := bh n + 1) (by omega)
  unfold longB
  rw [numB_cons, e1, e2, if_neg (by simp), if_neg]
  rw [List.take_of_length_le (by simp)]
  have e3 : acc 0 (UInt8.ofNat (n / 2 ^ (8 * bh n)) :: be (bh n) n) = acc (n / 2 ^ (8 * bh n)) (be (bh n) n) := by
    show acc (0 * 256 + (UInt8.ofNat (n / 2 ^ (8 * bh n))).toNat) _ = _
    rw [Nat.zero_mul, Nat.zero_add, UInt8.toNat_ofNat', Nat.mod_eq_of_lt (by omega)]
  rw [e3, acc_be]
  omega
theorem uintR_long (n : Nat) (h7 : bh n < 7) : uintR 18446744073709551615 (longB n) 0 = (longB n, 3, 0) := by
  unfold uintR bnd
  rw [if_neg (by simp), numB_long n h7, if_pos (by decide)]

theorem rduint_spec (g : Nat) (A : Option Addr) (c : Nat) (l : List UInt8) (e : Int) (w : World) (h : Rdr w g A c l e) (most : Nat) (r : List UInt8 × Int × Nat) (hr : uintR most l e = r) :
    Calls Tryd.prog 7 #[.pointer (some ⟨g, 0, none⟩), .int .u64 most] w (RdV g A r w) := by
  subst hr
  exact rduint_any g A c l e w h most

set_option maxHeartbeats 4000000 in
theorem law_any (n : Nat) (w : World) (hg : HT w) (hn : n < 18446744073709551616) :
    Calls Tryd.prog 4 #[.int .u64 n] w fun e w' => e = .returned (.bool true) ∧ Below w.heap.size w w' := by
  have keep : ∀ w', Keeps [] w w' → Below w.heap.size w w' := fun w' h => h.below (Nat.le_refl _) (by simp)
  have KEEP := Lib.hid keep
  have HG := Lib.hid hg
  have hk8 := bh_le n
  clear keep hg
  go_enter Tryd.func4, Tryd.ntmps4
  go_wp2_with fail
  refine (new_any _).mono ?_
  rintro e w1 ⟨rfl, hw1, hk1⟩
  have HW1 := Lib.hid hw1
  have HK1 := Lib.hid hk1
  clear hw1 hk1
  go_wp2_with fail
  refine (uint_any n w.heap.size none 0 [] w1 hn HW1.out (by simp)).mono ?_
  rintro e w2 ⟨A2, c2, o2, ho2, rfl, hw2, hk2, hn2⟩
  have HW2 := Lib.hid hw2
  have HK2 := Lib.hid (Keeps.wr HK1.out (Nat.le_refl _) hk2 (by simp))
  have l2 : o2.length ≤ 20 := by rw [ho2.out]; have := length_uintB_le n; simp only [List.nil_append]; omega
  clear hw2 hk2 hn2
  go_wp2_with fail
  refine (done_any w.heap.size A2 c2 o2 w2 HW2.out (by omega)).mono ?_
  rintro e w4 ⟨A4, c4, o4, ho4, rfl, hO4, hn4, hk4⟩
  have HK4 := Lib.hid (HK2.out.trans hk4 (by simp))
  have E4 := Lib.hid (show o4 = uintB n by rw [ho4.out, ho2.out]; simp)
  have hlen : o4.length = bh n + 1 := by rw [E4.out]; simp
  obtain ⟨g4, q4, rfl, hcell⟩ := hO4.rd.form (by omega)
  have HR4 := Lib.hid hO4.rd
  have HC4 := Lib.hid hcell
  have hcap := hO4.cap
  have hz4 : w.heap.size ≤ g4 := Nat.le_trans HK2.out.size (hn4 _ rfl)
  have hl4 := hO4.lt _ rfl
  rw [hlen] at hcap ⊢
  clear hk4 hn4 hO4 ho4 l2 hcell
  have j0 : ¬ (bh n : Int) + 1 < 1 := by omega
  have j1 : ¬ (9 : Int) < (bh n : Int) + 1 := by omega
  have j2 : (0 : Int) ≤ (bh n : Int) := by omega
  have j3 : (bh n : Int) ≤ (c4 : Int) := by omega
  obtain ⟨l0, hl0⟩ : ∃ l0, l0 = (uintB n).take (bh n) := ⟨_, rfl⟩
  have e0 : l0.length = bh n := by rw [hl0]; simp
  have HL0 := Lib.hid hl0
  have R0 := read_any (some ⟨g4, q4, none⟩) l0 c4 w4 (by omega) (by omega) (by rw [hl0, ← E4.out]; exact HR4.out.front (bh n) (by omega) _ (fun _ => rfl)) (fun a ha _ => by rw [← Option.some.inj ha]; exact hl4)
  rw [e0] at R0
  clear hl0
  go_wp2_with fail
  refine R0.mono ?_
  rintro e w5 ⟨rfl, hr5, hk5⟩
  have HR5 := Lib.hid hr5
  have HK5 := Lib.hid hk5
  clear hr5 hk5 R0
  go_wp2_with fail
  refine (rduint_spec w4.heap.size _ _ l0 0 w5 HR5.out 18446744073709551615 (l0, 12, 0) (by rw [HL0.out]; exact uintR_short n hn)).mono ?_
  rintro e w6 ⟨A6, c6, l6, hl6, rfl, hr6, hk6, hb6⟩
  have HR6 := Lib.hid hr6
  have HK6 := Lib.hid ((HK4.out.trans HK5.out (by simp)).trans hk6 (fun t ht => .inr (by simp at ht; have := HK4.out.size; omega)))
  have K46 := Lib.hid (HK5.out.trans hk6 (fun t ht => .inr (by simp at ht; omega)))
  clear hr6 hk6 hb6
  go_wp2_with fail
  refine (rddone_any _ A6 c6 l6 12 w6 HR6.out).mono ?_
  rintro e w' ⟨rfl, rfl⟩
  rw [show doneR l6 12 = 12 from rfl]
  go_wp2_with fail
  refine (num_any 12 w6 (HG.out.keeps HK6.out (by simp))).mono ?_
  rintro e w7 ⟨rfl, hk7⟩
  have HK7 := Lib.hid (HK6.out.trans hk7 (by simp))
  have K47 := Lib.hid (K46.out.trans hk7 (by simp))
  clear hk7
  by_cases h7 : (7 : Int) < (bh n : Int) + 1
  · go_wp2_with fail
    refine (sure_any _).mono ?_
    rintro e w8 ⟨rfl, hk8⟩
    have HK8 := Lib.hid (HK7.out.trans hk8 (by simp))
    clear hk8
    go_wp2_with fail
    go_ret
    exact ⟨rfl, KEEP.out _ HK8.out⟩
  · have hk7 : bh n < 7 := by omega
    have hq := bh_top n (by omega)
    have hp2 : (2 : Nat) ^ (7 - bh n) ≤ 128 := Nat.pow_le_pow_right (by omega) (show 7 - bh n ≤ 7 by omega)
    obtain ⟨q, hqe⟩ : ∃ q, q = n / 2 ^ (8 * bh n) := ⟨_, rfl⟩
    have hq128 : q < 128 := by omega
    have hF : o4[0].toNat = hb (bh n) + q := by
      have := (first_nat n hn).1
      have e : o4[0] = UInt8.ofNat (256 - 2 ^ (8 - bh n) + n / 2 ^ (8 * bh n)) := by simp only [E4.out]; rfl
      rw [e, this, ← hqe]; rfl
    have hFl := (first_nat n hn).2.2
    have hF256 : hb (bh n) + q < 256 := by rw [hqe]; exact hFl
    have b0 : w7.cell? ⟨g4, q4, none⟩ = some (.int .u8 ((hb (bh n) + q : Nat) : Int)) := by
      have := K47.out.cell (HC4.out 0 (by omega)) (by simp)
      rw [hF] at this
      exact this
    have hg47 : g4 < w7.heap.size := Nat.lt_of_lt_of_le hl4 K47.out.size
    have HQ := Lib.hid hqe
    have HF := Lib.hid hF256
    clear hFl hF hqe hq hp2
    obtain ⟨F, hFe⟩ : ∃ F, F = hb (bh n) + q := ⟨_, rfl⟩
    rw [← hFe] at b0
    have hF2 : F < 256 := by rw [hFe]; exact HF.out
    have HFE := Lib.hid hFe
    clear hFe
    have tab : ∀ i : Nat, i < 8 → (w7.alloc (.cells #[.int .i64 128, .int .i64 64, .int .i64 32, .int .i64 16, .int .i64 8, .int .i64 4, .int .i64 2, .int .i64 1] 3 (0, 0))).cell? ⟨w7.heap.size, i, none⟩ = some (.int .i64 ((2 ^ (7 - i) : Nat) : Int)) := by
      intro i hi
      have hs : i = 0 ∨ i = 1 ∨ i = 2 ∨ i = 3 ∨ i = 4 ∨ i = 5 ∨ i = 6 ∨ i = 7 := by omega
      rcases hs with rfl | rfl | rfl | rfl | rfl | rfl | rfl | rfl <;> simp
    have TAB := Lib.hid tab
    clear tab
    go_wp2_with fail
    go_loop [7, 8, 9] (fun first head i => ∃ j : Nat, j ≤ bh n + 1 ∧ i = .int .i64 j ∧ head = .int .i64 (hb j : Nat) ∧ first = .int .i64 ((F - hb (min j (bh n)) : Nat) : Int)) (fun _ _ i => bh n + 1 - (intOf i).toNat)
    case atStart => exact ⟨0, Nat.zero_le _, rfl, rfl, by simp [hb]⟩
    case round =>
      obtain ⟨j, hj, rfl, rfl, rfl⟩ := hrel
      by_cases hle : j ≤ bh n
      · have tj := TAB.out j (by omega)
        have hs := hb_succ (i := j) (by omega)
        have hX := hb_le j
        have hP : (2 : Nat) ^ (7 - j) ≤ 128 := Nat.pow_le_pow_right (by omega) (show 7 - j ≤ 7 by omega)
        obtain ⟨P, hPe⟩ : ∃ P, P = (2 : Nat) ^ (7 - j) := ⟨_, rfl⟩
        rw [← hPe] at tj hs hP
        obtain ⟨X, hXe⟩ : ∃ X, X = hb j := ⟨_, rfl⟩
        rw [← hXe] at hs hX ⊢
        have HS := Lib.hid hs
        have HX := Lib.hid hXe
        by_cases hlt : j < bh n
        · have hmin : min j (bh n) = j := by omega
          have hmin2 : min (j + 1) (bh n) = j + 1 := by omega
          have hFX : X + P ≤ F := by
            have h1 : hb (j + 1) ≤ hb (bh n) := by
              unfold hb
              have : (2 : Nat) ^ (8 - bh n) ≤ 2 ^ (8 - (j + 1)) := Nat.pow_le_pow_right (by omega) (by omega)
              omega
            rw [HS.out, HFE.out]; omega
          obtain ⟨Y, hY⟩ : ∃ Y, Y = F - X := ⟨_, rfl⟩
          rw [hmin, ← hXe, ← hY]
          have hYP : (P : Int) ≤ (Y : Int) := by omega
          have hY2 : (Y : Int) ≤ 256 := by omega
          have HM2 := Lib.hid hmin2
          have HY := Lib.hid (show Y - P = F - hb (j + 1) by rw [← HS.out]; omega)
          clear hs hXe hPe hmin hmin2 hY hFX
          go_wp2_with fail
          go_round
          case rel => exact ⟨j + 1, by omega, by go_num, by rw [← HS.out]; rfl, by rw [HM2.out, ← HY.out, Int.ofNat_sub (by omega)]⟩
          case measure => simp [intOf]; omega
        · have hmin : min j (bh n) = bh n := by omega
          have hmin2 : min (j + 1) (bh n) = bh n := by omega
          have HM2 := Lib.hid hmin2
          rw [hmin]
          obtain ⟨Y, hY⟩ : ∃ Y, Y = F - hb (bh n) := ⟨_, rfl⟩
          rw [← hY]
          have HY := Lib.hid hY
          clear hs hXe hPe hmin hmin2 hY
          go_wp2_with fail
          go_round
          case rel => exact ⟨j + 1, by omega, by go_num, by rw [← HS.out]; rfl, by rw [HM2.out, ← HY.out]⟩
          case measure => simp [intOf]; omega
      · have hj1 : j = bh n + 1 := by omega
        subst hj1
        have hmin : min (bh n + 1) (bh n) = bh n := by omega
        have hq0 : F - hb (bh n) = q := by rw [HFE.out]; omega
        rw [hmin, hq0]
        have hH : hb (bh n + 1) ≤ 254 := by
          have : (2 : Nat) ^ 1 ≤ 2 ^ (8 - (bh n + 1)) := Nat.pow_le_pow_right (by omega) (by omega)
          unfold hb; omega
        obtain ⟨X, hXe⟩ : ∃ X, X = hb (bh n + 1) := ⟨_, rfl⟩
        rw [← hXe] at hH ⊢
        have HX := Lib.hid hXe
        clear hmin hq0 hXe
        go_wp2_with fail
        have hwX : IntKind.u8.wrap (X : Int) = (X : Int) := by rw [IntKind.wrap_u8]; omega
        have hwq : IntKind.u8.wrap (q : Int) = (q : Int) := by rw [IntKind.wrap_u8]; omega
        have i1 : (1 : Int) ≤ (bh n : Int) + 1 := by omega
        have i2 : (1 : Int) ≤ (c4 : Int) := by omega
        have hc1 : c4 = 1 ∨ ¬ c4 = 1 := by omega
        rcases hc1 with hc1 | hc1
        all_goals
          refine seq_start (by kernel_rfl) (fun x => Keeps [] w7 x) 11 [0, 1, 2, 3, 4, 5, 6, 7, 8, 9, 10] rfl (((Keeps.refl [] w7).alloc _).drew) (fun hS => ?_)
          refine seq_take (v := ?_) rfl (by kernel_rfl) (by kernel_rfl) (by kernel_rfl) (Or.inl ⟨by rfl, fun w' hSw => ?_⟩) (by assumption) ?_
          rotate_left
          · go_simp
            with_reducible rfl
          simp only [Act.put, List.setIfInBounds_toArray, List.set_cons_zero, List.set_cons_succ]
          refine seq_take (v := ?_) rfl (by kernel_rfl) (by kernel_rfl) (by kernel_rfl) (Or.inl ⟨by rfl, fun w' hSw => ?_⟩) (by assumption) ?_
          rotate_left
          · go_simp
            with_reducible rfl
          simp only [Act.put, List.setIfInBounds_toArray, List.set_cons_zero, List.set_cons_succ]
          refine seq_take (v := ?_) rfl (by kernel_rfl) (by kernel_rfl) (by kernel_rfl) (Or.inl ⟨by rfl, fun w' hSw => ?_⟩) (by assumption) ?_
          rotate_left
          · go_simp
            with_reducible rfl
          simp only [Act.put, List.setIfInBounds_toArray, List.set_cons_zero, List.set_cons_succ]
          refine seq_take (v := ?_) rfl (by kernel_rfl) (by kernel_rfl) (by kernel_rfl) (Or.inl ⟨by rfl, fun w' hSw => ?_⟩) (by assumption) ?_
          rotate_left
          · go_simp
            with_reducible rfl
          simp only [Act.put, List.setIfInBounds_toArray, List.set_cons_zero, List.set_cons_succ]
          refine seq_take (v := ?_) rfl (by kernel_rfl) (by kernel_rfl) (by kernel_rfl) (Or.inl ⟨by rfl, fun w' hSw => ?_⟩) (by assumption) ?_
          rotate_left
          · go_simp
            with_reducible rfl
          simp only [Act.put, List.setIfInBounds_toArray, List.set_cons_zero, List.set_cons_succ]
          iterate 2 (refine seq_later ?_; simp only [List.cons_append, List.nil_append])
          refine seq_take (v := ?_) rfl (by kernel_rfl) (by kernel_rfl) (by kernel_rfl) (Or.inl ⟨by rfl, fun w' hSw => ?_⟩) (by assumption) ?_
          rotate_left
          · go_simp
            with_reducible rfl
          simp only [Act.put, List.setIfInBounds_toArray, List.set_cons_zero, List.set_cons_succ]
          refine seq_take (v := ?_) rfl (by kernel_rfl) (by kernel_rfl) (by kernel_rfl) (Or.inl ⟨by rfl, fun w' hSw => ?_⟩) (by assumption) ?_
          rotate_left
          · go_simp
            with_reducible rfl
          simp only [Act.put, List.setIfInBounds_toArray, List.set_cons_zero, List.set_cons_succ]
          iterate 2 (refine seq_later ?_; simp only [List.cons_append, List.nil_append])
          refine seq_do rfl (by kernel_rfl) (by rfl) (fun K hK => ?_)
          go_simp
          have K78 : Keeps [] w7 ((w7.alloc (.cells #[.int .i64 128, .int .i64 64, .int .i64 32, .int .i64 16, .int .i64 8, .int .i64 4, .int .i64 2, .int .i64 1] 3 (0, 0))).alloc (.cells #[.int .u8 (X : Int), .int .u8 (q : Int)] 5 (0, 0))).drew := (((Keeps.refl [] w7).alloc _).alloc _).drew
          obtain ⟨w8, hw8⟩ : ∃ w8, w8 = ((w7.alloc (.cells #[.int .i64 128, .int .i64 64, .int .i64 32, .int .i64 16, .int .i64 8, .int .i64 4, .int .i64 2, .int .i64 1] 3 (0, 0))).alloc (.cells #[.int .u8 (X : Int), .int .u8 (q : Int)] 5 (0, 0))).drew := ⟨_, rfl⟩
          rw [← hw8] at K78 ⊢
          have hX8 : (UInt8.ofNat X).toNat = X := by rw [UInt8.toNat_ofNat']; omega
          have hq8 : (UInt8.ofNat q).toNat = q := by rw [UInt8.toNat_ofNat']; omega
          have R8 : RdB w8 (some ⟨w7.heap.size + 1, 0, none⟩) [UInt8.ofNat X, UInt8.ofNat q] := by
            have := RdB.lit (w7.alloc (.cells #[.int .i64 128, .int .i64 64, .int .i64 32, .int .i64 16, .int .i64 8, .int .i64 4, .int .i64 2, .int .i64 1] 3 (0, 0))) [UInt8.ofNat X, UInt8.ofNat q] 5 (0, 0)
            simp only [encB, List.map_cons, List.map_nil, hX8, hq8] at this
            rw [hw8]
            refine RdB.drew ?_
            simpa using this
          have HR8 := Lib.hid R8
          have HK8 := Lib.hid K78
          have HW8 := Lib.hid hw8
          clear R8 K78 hw8 hX8 hq8
          refine hK.out (fun x => Keeps [] w7 x) _ _ (fun x h => h) HK8.out (fun hS => ?_)
          refine seq_do rfl (by kernel_rfl) (by rfl) (fun K hK => ?_)
          refine op_appendB (.tmp 68) (.tmp 73) 22 5 rfl Tryd.underlying22 infoB none 0 [] rfl (OwnB.nil _ _) (some ⟨w7.heap.size + 1, 0, none⟩) 2 [UInt8.ofNat X, UInt8.ofNat q] rfl HR8.out (by simp) ?_
          intro A9 c9 w9 l9 hl9 hO9 hk9 hb9
          have HO9 := Lib.hid hO9
          have K79 := Lib.hid (HK8.out.trans hk9 (by simp [blk]))
          have HN9 := Lib.hid (show ∀ a, A9 = some a → w7.heap.size ≤ a.block from fun a ha => by rcases hb9 a ha with h | h; simp [blk] at h; exact Nat.le_trans HK8.out.size h)
          have e9 : l9.length = 2 := by rw [hl9.out]; rfl
          obtain ⟨lt, hlt⟩ : ∃ lt, lt = o4.drop 1 := ⟨_, rfl⟩
          have elt : lt.length = bh n := by rw [hlt]; simp; omega
          have HLT := Lib.hid hlt
          clear hO9 hk9 hb9 hlt
          refine hK.out (fun x => Keeps [] w7 x) _ _ (fun x h => h) K79.out (fun hS => ?_)
          refine seq_do rfl (by kernel_rfl) (by rfl) (fun K hK => ?_)
          refine op_appendB (.tmp 74) (.tmp 76) 22 5 rfl Tryd.underlying22 infoB A9 c9 l9 rfl HO9.out _ _ lt (by rw [elt]; rfl) (by exact RdB.keeps0 (RdB.keeps0 (by rw [HLT.out]; exact RdB.behind HR4.out 1 (by omega) _ (by intro hq; first | rfl | (exfalso; omega))) K47.out) K79.out) (by omega) ?_
          intro A10 c10 w10 l10 hl10 hO10 hk10 hb10
          have HO10 := Lib.hid hO10
          have E10 : l10 = longB n := by
            have e1 : be (bh n) n = lt := by rw [HLT.out, E4.out]; rfl
            rw [hl10.out, hl9.out]
            unfold longB
            rw [← HX.out, ← HQ.out, e1]; rfl
          have H10 := Lib.hid E10
          have K710 := Lib.hid (K79.out.fresh hk10 HN9.out)
          have z10 : l10.length ≤ 20 := by rw [E10]; simp [longB]; omega
          have t10 := hO10.lt
          have p10 := hO10.cap
          clear hO10 hk10 hb10 E10
          refine hK.out (fun x => Keeps [] w7 x) _ _ (fun x h => h) K710.out (fun hS => ?_)
          refine seq_take (v := ?_) rfl (by kernel_rfl) (by kernel_rfl) (by kernel_rfl) (Or.inl ⟨by rfl, fun w' hSw => ?_⟩) (by assumption) ?_
          rotate_left
          · go_simp
            with_reducible rfl
          simp only [Act.put, List.setIfInBounds_toArray, List.set_cons_zero, List.set_cons_succ]
          refine seq_done (by kernel_rfl) ?_
          all_goals skip
          clear hS
          go_wp2_with fail
          refine (read_any A10 l10 c10 w10 (by omega) (by omega) HO10.out.rd (fun a ha _ => t10 a ha)).mono ?_
          rintro e w11 ⟨rfl, hr11, hk11⟩
          have HR11 := Lib.hid hr11
          have K711 := Lib.hid (K710.out.trans hk11 (by simp))
          clear hr11 hk11
          go_wp2_with fail
          refine (rduint_spec w10.heap.size _ _ l10 0 w11 HR11.out 18446744073709551615 (l10, 3, 0) (by rw [H10.out]; exact uintR_long n hk7)).mono ?_
          rintro e w12 ⟨A12, c12, l12, hl12, rfl, hr12, hk12, hb12⟩
          have HR12 := Lib.hid hr12
          have K712 := Lib.hid (K711.out.trans hk12 (fun t ht => .inr (by simp at ht; have := K710.out.size; omega)))
          have HG12 := Lib.hid (HG.out.keeps (HK7.out.trans K712.out (by simp)) (by simp))
          have Z12 := Lib.hid (show l12.length = l10.length by rw [hl12.out])
          clear hr12 hk12 hb12
          go_wp2_with fail
          refine (errof_any _ A12 c12 l12 3 w12 HR12.out).mono ?_
          rintro e w' ⟨rfl, rfl⟩
          go_wp2_with fail
          refine (num_any 3 w12 HG12.out).mono ?_
          rintro e w13 ⟨rfl, hk13⟩
          have HR13 := Lib.hid (HR12.out.keeps0 hk13)
          have K713 := Lib.hid (K712.out.trans hk13 (by simp))
          clear hk13
          go_wp2_with fail
          refine (left_any _ A12 c12 l12 3 w13 HR13.out).mono ?_
          rintro e w' ⟨rfl, rfl⟩
          rw [Z12.out]
          go_wp2_with fail
          refine (sure_any _).mono ?_
          rintro e w14 ⟨rfl, hk14⟩
          have K714 := Lib.hid (HK7.out.trans (K713.out.trans hk14 (by simp)) (by simp))
          clear hk14
          go_wp2_with fail
          go_ret
          exact ⟨rfl, KEEP.out _ K714.out⟩
theorem law_int (n : Int) (w : World) (hg : HT w) (hn : 0 ≤ n ∧ n ≤ 18446744073709551615) :
    Calls Tryd.prog 4 #[.int .u64 n] w fun e w' => e = .returned (.bool true) ∧ Below w.heap.size w w' := by
  obtain ⟨a, rfl⟩ : ∃ a : Nat, n = a := ⟨n.toNat, by omega⟩
  exact law_any a w hg (by omega)
end Go.Proofs.YtficgbeolmdbiaaDoor
