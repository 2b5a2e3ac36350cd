/- What the program's writer does: contracts. -/
import Derived.Test.YthppbefemfkccaaShelf
import Derived.Test.YthppbefemfkccaaPackPlain
import Derived.Test.YthppbefemfkccaaBytes
import Derived.Lib.SliceRun
import Derived.LaidEqlPtr
namespace Go.Proofs.Ythppbefemfkccaa
open Go.RowKit

/-! ## behind, head -/
theorem behind_any (n : Nat) (w : World) (hn : n < 18446744073709551616) :
    Calls Try.prog 23 #[.int .u64 n] w fun e w' => e = .returned (.int .i64 (bh n : Nat)) ∧ w = w' := by
  have hb := Lib.hid (bh_bitLen n hn)
  have h64 : Lib.bitLen n ≤ 64 := Lib.bitLen_le n 64 (by omega) hn
  go_enter Try.func23, Try.ntmps23
  go_wp2_with fail
  refine (Try.bits_Len64 n _ (by omega) (by omega)).mono ?_
  rintro e w' ⟨rfl, rfl⟩
  go_wp2_with fail
  go_ret
  exact ⟨ret_int (by rw [← hb.out]; omega), rfl⟩

theorem head_any (k : Nat) (w : World) (hk : k ≤ 8) :
    Calls Try.prog 24 #[.int .i64 k] w fun e w' => e = .returned (.int .u8 ((256 - 2 ^ (8 - k) : Nat) : Int)) ∧ w = w' := by
  have hs : k = 0 ∨ k = 1 ∨ k = 2 ∨ k = 3 ∨ k = 4 ∨ k = 5 ∨ k = 6 ∨ k = 7 ∨ k = 8 := by omega
  rcases hs with rfl | rfl | rfl | rfl | rfl | rfl | rfl | rfl | rfl
  all_goals
    go_enter Try.func24, Try.ntmps24
    go_wp2_with fail
    go_ret
    exact ⟨ret_int (by decide), rfl⟩

/-! ## The writer -/
/-- A writer: its block, and its bytes in a row of their own. -/
def Wr (w : World) (g : Nat) (A : Option Addr) (c : Nat) (out : List UInt8) : Prop :=
  w.heap[g]? = some (.cells #[.slice A out.length c] 58 (0, 0)) ∧ OwnB 5 w A c out ∧ (∀ a, A = some a → a.block ≠ g)
theorem Wr.lt {w : World} {g : Nat} {A : Option Addr} {c : Nat} {out : List UInt8} (h : Wr w g A c out) : g < w.heap.size := lt_of_block h.1
theorem Wr.keeps {S : List Nat} {w w' : World} {g : Nat} {A : Option Addr} {c : Nat} {out : List UInt8} (h : Wr w g A c out) (hk : Keeps S w w') (hg : g ∉ S) (hA : ∀ a, A = some a → a.block ∉ S) : Wr w' g A c out :=
  ⟨(hk.block g h.lt hg).trans h.1, h.2.1.keeps hk hA, h.2.2⟩
/-- A call that lays bytes behind those of a writer, and hands the writer back. -/
def WrPost (g : Nat) (A : Option Addr) (spec : List UInt8) (w : World) (e : Ending) (w' : World) : Prop :=
  ∃ A' c' out', Hid (out' = spec) ∧ e = .returned (.pointer (some ⟨g, 0, none⟩)) ∧ Wr w' g A' c' out' ∧ Keeps (g :: blk A) w w' ∧ (∀ a, A' = some a → a.block ∈ blk A ∨ w.heap.size ≤ a.block)
theorem WrPost.chain {g : Nat} {A A1 : Option Addr} {s : List UInt8} {w w1 : World} {e : Ending} {w2 : World} (hk : Keeps (g :: blk A) w w1) (hn : ∀ a, A1 = some a → a.block ∈ blk A ∨ w.heap.size ≤ a.block) (h : WrPost g A1 s w1 e w2) : WrPost g A s w e w2 := by
  obtain ⟨A', c', out', ho, he, hw, hk2, hn2⟩ := h
  have sub : ∀ t ∈ blk A1, t ∈ blk A ∨ w.heap.size ≤ t := by
    intro t ht
    obtain ⟨a, e1, e2⟩ := mem_blk.1 ht
    rw [← e2]
    exact hn a e1
  refine ⟨A', c', out', ho, he, hw, hk.trans hk2 (fun t ht => ?_), fun a ha => ?_⟩
  · rcases List.mem_cons.1 ht with rfl | ht
    · exact .inl (by simp)
    · rcases sub t ht with h | h
      · exact .inl (by simp [h])
      · exact .inr h
  · rcases hn2 a ha with h | h
    · exact sub _ h
    · exact .inr (Nat.le_trans hk.size h)

/-- The same between two calls. -/
def WrStep (g : Nat) (A : Option Addr) (spec : List UInt8) (w w' : World) : Prop :=
  ∃ A' c' out', Hid (out' = spec) ∧ Wr w' g A' c' out' ∧ Keeps (g :: blk A) w w' ∧ (∀ a, A' = some a → a.block ∈ blk A ∨ w.heap.size ≤ a.block)
theorem WrPost.step {g : Nat} {A : Option Addr} {s : List UInt8} {w : World} {e : Ending} {w' : World} (h : WrPost g A s w e w') : e = .returned (.pointer (some ⟨g, 0, none⟩)) ∧ WrStep g A s w w' := by
  obtain ⟨A', c', out', ho, he, hw, hk, hn⟩ := h
  exact ⟨he, A', c', out', ho, hw, hk, hn⟩
theorem WrStep.post {g : Nat} {A : Option Addr} {s : List UInt8} {w w' : World} (h : WrStep g A s w w') : WrPost g A s w (.returned (.pointer (some ⟨g, 0, none⟩))) w' := by
  obtain ⟨A', c', out', ho, hw, hk, hn⟩ := h
  exact ⟨A', c', out', ho, rfl, hw, hk, hn⟩
theorem WrStep.refl {w : World} {g : Nat} {A : Option Addr} {c : Nat} {out : List UInt8} (h : Wr w g A c out) : WrStep g A out w w := ⟨A, c, out, rfl, h, Keeps.refl _ _, fun a ha => .inl (mem_blk.2 ⟨a, ha, rfl⟩)⟩
theorem Wr.nin {w : World} {g : Nat} {A : Option Addr} {c : Nat} {out : List UInt8} (h : Wr w g A c out) : ∀ t ∈ g :: blk A, t < w.heap.size := by
  intro t ht
  rcases List.mem_cons.1 ht with rfl | ht
  · exact h.lt
  · obtain ⟨a, e1, e2⟩ := mem_blk.1 ht
    rw [← e2]; exact h.2.1.lt a e1
/-- New blocks ahead of the call. -/
theorem WrStep.before {g : Nat} {A : Option Addr} {s : List UInt8} {w w1 w2 : World} (_h : ∀ t ∈ g :: blk A, t < w.heap.size) (hk : Keeps [] w w1) (h : WrStep g A s w1 w2) : WrStep g A s w w2 := by
  obtain ⟨A', c', out', ho, hw, hk1, hn⟩ := h
  exact ⟨A', c', out', ho, hw, (hk.mono (by simp)).trans hk1 (fun t ht => .inl ht), fun a ha => (hn a ha).imp id (fun h => Nat.le_trans hk.size h)⟩
theorem WrPost.before {g : Nat} {A : Option Addr} {s : List UInt8} {w w1 : World} {e : Ending} {w2 : World} (_h : ∀ t ∈ g :: blk A, t < w.heap.size) (hk : Keeps [] w w1) (h : WrPost g A s w1 e w2) : WrPost g A s w e w2 := by
  obtain ⟨A', c', out', ho, he, hw, hk1, hn⟩ := h
  exact ⟨A', c', out', ho, he, hw, (hk.mono (by simp)).trans hk1 (fun t ht => .inl ht), fun a ha => (hn a ha).imp id (fun h => Nat.le_trans hk.size h)⟩
/-- New blocks beside the writer. -/
theorem WrStep.more {g : Nat} {A : Option Addr} {s : List UInt8} {w w1 w2 : World} (h : WrStep g A s w w1) (hk : Keeps [] w1 w2) : WrStep g A s w w2 := by
  obtain ⟨A', c', out', ho, hw, hk1, hn⟩ := h
  exact ⟨A', c', out', ho, hw.keeps hk (by simp) (fun _ _ => by simp), hk1.trans hk (by simp), hn⟩

theorem raw_any (g : Nat) (A : Option Addr) (c : Nat) (out : List UInt8) (A2 : Option Addr) (l : List UInt8) (c2 : Nat) (w : World) (hw : Wr w g A c out) (hr : RdB w A2 l) (hb : out.length + l.length ≤ 140737488355328) :
    Calls Try.prog 25 #[.pointer (some ⟨g, 0, none⟩), .slice A2 l.length c2] w (WrPost g A (out ++ l) w) := by
  have hc : w.cell? ⟨g, 0, none⟩ = some (.slice A out.length c) := by rw [cell_of_row _ _ _ _ _ _ hw.1]; rfl
  have HW := Lib.hid hw
  have HR := Lib.hid hr
  clear hw hr
  go_enter Try.func25, Try.ntmps25
  go_wp2_with (at_builtin; refine wpList_appendB rfl (.tmp 11) (.tmp 12) 32 5 rfl Try.underlying32 infoB A c out rfl HW.out.2.1 A2 c2 l rfl HR.out hb ?_; intro A' c' w1 l1 hl1 ho hk hb1; have hc1 := hk.cell hc (by intro hm; obtain ⟨a1, e1, e2⟩ := mem_blk.1 hm; exact HW.out.2.2 a1 e1 e2); have hf1 := frozen_of_row w1 g 0 _ _ ((hk.block g HW.out.lt (by intro hm; obtain ⟨a1, e1, e2⟩ := mem_blk.1 hm; exact HW.out.2.2 a1 e1 e2)).trans HW.out.1); have HO := Lib.hid ho; have HK := Lib.hid hk; have HB := Lib.hid hb1; clear ho hk hb1)
  go_ret
  have hgA : g ∉ blk A := by
    intro hm
    obtain ⟨a1, e1, e2⟩ := mem_blk.1 hm
    exact HW.out.2.2 a1 e1 e2
  have hne : ∀ a, A' = some a → a.block ≠ g := by
    intro a ha
    rcases HB.out a ha with h | h
    · intro e; rw [e] at h; exact hgA h
    · have := HW.out.lt; omega
  have hblk := (HK.out.block g HW.out.lt hgA).trans HW.out.1
  refine ⟨A', c', l1, hl1, rfl, ⟨?_, ?_, hne⟩, ?_, HB.out⟩
  · rw [heap_setCell_same w1 g 0 _ _ _ hblk]; rfl
  · exact OwnB.keeps HO.out (Keeps.setCell (S := [g]) (p := ⟨g, 0, none⟩) (Keeps.refl [g] w1) (.inl (by simp)) _) (fun a ha => by simpa using hne a ha)
  · exact Keeps.setCell (p := ⟨g, 0, none⟩) (HK.out.mono (fun t ht => .inl (by simp [ht]))) (.inl (by simp)) _

/-- By a nil writer nothing is laid. -/
theorem raw_nil (v : Value) (w : World) : Calls Try.prog 25 #[.pointer none, v] w fun e w' => e = .returned (.pointer none) ∧ w = w' := by
  go_enter Try.func25, Try.ntmps25
  go_wp2_with fail
  go_ret
  exact ⟨rfl, rfl⟩

theorem first_or (k x : Nat) (hk : k < 8) (hx : x < 2 ^ (7 - k)) : bits .or .u8 ((256 - 2 ^ (8 - k) : Nat) : Int) (x : Int) = ((256 - 2 ^ (8 - k) + x : Nat) : Int) := by
  have h2 : (2 : Nat) ^ (7 - k) ≤ 128 := Nat.pow_le_pow_right (by omega) (show 7 - k ≤ 7 by omega)
  have h3 : (2 : Nat) ^ (8 - k) = 2 * 2 ^ (7 - k) := by rw [show 8 - k = (7 - k) + 1 by omega, Nat.pow_succ, Nat.mul_comm]
  have h1 : 0 < 2 ^ (7 - k) := Nat.two_pow_pos _
  rw [u8_or_nat _ _ (by omega) (by omega), nat_join (8 - k) _ _ ?_ (by omega)]
  have hs : k = 0 ∨ k = 1 ∨ k = 2 ∨ k = 3 ∨ k = 4 ∨ k = 5 ∨ k = 6 ∨ k = 7 := by omega
  rcases hs with rfl | rfl | rfl | rfl | rfl | rfl | rfl | rfl <;> decide

theorem shr_byte (n k j : Nat) : ((n : Int) / 2 ^ (8 * (k - 1 - j)) % 256) = ((UInt8.ofNat (n / 2 ^ (8 * (k - 1 - j)) % 256)).toNat : Int) := by
  rw [UInt8.toNat_ofNat', Nat.mod_mod]
  simp
theorem first_byte (n : Nat) (hk : bh n < 8) : bits .or .u8 ((256 - 2 ^ (8 - bh n) : Nat) : Int) ((n : Int) / 2 ^ (8 * bh n) % 256) = ((UInt8.ofNat (256 - 2 ^ (8 - bh n) + n / 2 ^ (8 * bh n))).toNat : Int) := by
  have hx := bh_top n hk
  have h2 : (2 : Nat) ^ (7 - bh n) ≤ 128 := Nat.pow_le_pow_right (by omega) (show 7 - bh n ≤ 7 by omega)
  have h3 : (2 : Nat) ^ (8 - bh n) = 2 * 2 ^ (7 - bh n) := by rw [show 8 - bh n = (7 - bh n) + 1 by omega, Nat.pow_succ, Nat.mul_comm]
  have e : ((n : Int) / 2 ^ (8 * bh n) % 256) = ((n / 2 ^ (8 * bh n) : Nat) : Int) := by
    have : ((n / 2 ^ (8 * bh n) : Nat) : Int) = (n : Int) / 2 ^ (8 * bh n) := by simp
    rw [← this]
    generalize n / 2 ^ (8 * bh n) = x at hx
    omega
  rw [e, first_or _ _ hk hx, UInt8.toNat_ofNat']
  omega

set_option maxHeartbeats 1000000 in
/-- What Uint does behind its first byte. -/
theorem uint_any (n : Nat) (g : Nat) (A : Option Addr) (c : Nat) (out : List UInt8) (w : World) (hn : n < 18446744073709551616) (hw : Wr w g A c out) (hb : out.length + 18 ≤ 140737488355328) :
    Calls Try.prog 14 #[.pointer (some ⟨g, 0, none⟩), .int .u64 n] w (WrPost g A (out ++ uintB n) w) := by
  have HW := Lib.hid hw
  have hk8 := bh_le n
  obtain ⟨f, hf⟩ : ∃ f : UInt8, f = UInt8.ofNat (256 - 2 ^ (8 - bh n) + n / 2 ^ (8 * bh n)) := ⟨_, rfl⟩
  clear hw
  by_cases hk : bh n < 8
  · have hor := first_byte n hk
    rw [← hf] at hor
    have HF := Lib.hid hf
    clear hf
    go_enter Try.func14, Try.ntmps14
    go_wp2_with fail
    refine (behind_any n _ hn).mono ?_
    rintro e w' ⟨rfl, rfl⟩
    go_wp2_with fail
    refine (head_any (bh n) _ hk8).mono ?_
    rintro e w' ⟨rfl, rfl⟩
    go_wp2_with fail
    refine (raw_any g A c out (some ⟨w.heap.size, 0, none⟩) [f] 1 _ (HW.out.keeps ((Keeps.refl [] w).alloc _) (by simp) (fun _ _ => by simp)) (RdB.lit w [f] 5 (0, 0)) (by simp; omega)).mono ?_
    intro e w1 hp
    obtain ⟨rfl, hst⟩ := hp.step
    have HS := Lib.hid (WrStep.before (HW.out.nin) ((Keeps.refl [] w).alloc _) hst)
    clear hp hst hor
    go_wp2_with fail
    go_loopw [26] (fun i wr => ∃ j : Nat, j ≤ bh n ∧ i = .int .i64 j ∧ Hid (WrStep g A (out ++ f :: (be (bh n) n).take j) w wr)) (fun i _ => bh n - (intOf i).toNat)
    case atStart => exact ⟨0, Nat.zero_le _, rfl, by show WrStep _ _ _ _ _; rw [List.take_zero]; exact HS.out⟩
    case round =>
      obtain ⟨j, hj, rfl, hst⟩ := hrel
      by_cases hlt : j < bh n
      · have hsb := shr_byte n (bh n) j
        obtain ⟨b, hbb⟩ : ∃ b : UInt8, b = UInt8.ofNat (n / 2 ^ (8 * (bh n - 1 - j)) % 256) := ⟨_, rfl⟩
        rw [← hbb] at hsb
        have HBB := Lib.hid hbb
        clear hbb
        obtain ⟨A1, c1, out1, ho1, hw1, hk1, hn1⟩ := hst.out
        have HW1 := Lib.hid hw1
        have hlen : out1.length ≤ out.length + 9 := by rw [ho1.out]; simp; omega
        clear hw1
        go_wp2_with fail
        refine (raw_any g A1 c1 out1 (some ⟨wr.heap.size, 0, none⟩) [b] 1 _ (HW1.out.keeps ((Keeps.refl [] wr).alloc _) (by simp) (fun _ _ => by simp)) (RdB.lit wr [b] 5 (0, 0)) (by simp; omega)).mono ?_
        intro e w2 hp
        obtain ⟨rfl, hst2⟩ := (WrPost.chain hk1 hn1 (WrPost.before HW1.out.nin ((Keeps.refl [] wr).alloc _) hp)).step
        have HS2 := Lib.hid hst2
        clear hp hst2 hsb hlen hk1 hn1
        go_wp2_with fail
        go_roundw
        case rel =>
          refine ⟨j + 1, by omega, by go_num, ?_⟩
          show WrStep _ _ _ _ _
          have e : out ++ f :: (be (bh n) n).take (j + 1) = out1 ++ [b] := by rw [ho1.out, be_take _ _ _ hlt, HBB.out]; simp
          rw [e]; exact HS2.out
        case measure => simp [intOf]; omega
      · have hjk : j = bh n := by omega
        have HJ := Lib.hid hjk
        clear hjk
        go_wp2_with fail
        go_ret
        have := hst.out
        rw [HJ.out, List.take_of_length_le (by simp), HF.out] at this
        exact this.post
  · have hk' : bh n = 8 := by omega
    have hor : ((256 - 2 ^ (8 - bh n) : Nat) : Int) = (f.toNat : Int) := by rw [hf, bh_top8 n hn hk', hk']; decide
    have HF := Lib.hid hf
    clear hf
    have HK := Lib.hid hk'
    clear hk'
    go_enter Try.func14, Try.ntmps14
    go_wp2_with fail
    refine (behind_any n _ hn).mono ?_
    rintro e w' ⟨rfl, rfl⟩
    go_wp2_with fail
    refine (head_any (bh n) _ hk8).mono ?_
    rintro e w' ⟨rfl, rfl⟩
    go_wp2_with fail
    refine (raw_any g A c out (some ⟨w.heap.size, 0, none⟩) [f] 1 _ (HW.out.keeps ((Keeps.refl [] w).alloc _) (by simp) (fun _ _ => by simp)) (RdB.lit w [f] 5 (0, 0)) (by simp; omega)).mono ?_
    intro e w1 hp
    obtain ⟨rfl, hst⟩ := hp.step
    have HS := Lib.hid (WrStep.before (HW.out.nin) ((Keeps.refl [] w).alloc _) hst)
    clear hp hst hor
    go_wp2_with fail
    go_loopw [26] (fun i wr => ∃ j : Nat, j ≤ bh n ∧ i = .int .i64 j ∧ Hid (WrStep g A (out ++ f :: (be (bh n) n).take j) w wr)) (fun i _ => bh n - (intOf i).toNat)
    case atStart => exact ⟨0, Nat.zero_le _, rfl, by show WrStep _ _ _ _ _; rw [List.take_zero]; exact HS.out⟩
    case round =>
      obtain ⟨j, hj, rfl, hst⟩ := hrel
      by_cases hlt : j < bh n
      · have hsb := shr_byte n (bh n) j
        obtain ⟨b, hbb⟩ : ∃ b : UInt8, b = UInt8.ofNat (n / 2 ^ (8 * (bh n - 1 - j)) % 256) := ⟨_, rfl⟩
        rw [← hbb] at hsb
        have HBB := Lib.hid hbb
        clear hbb
        obtain ⟨A1, c1, out1, ho1, hw1, hk1, hn1⟩ := hst.out
        have HW1 := Lib.hid hw1
        have hlen : out1.length ≤ out.length + 9 := by rw [ho1.out]; simp; omega
        clear hw1
        go_wp2_with fail
        refine (raw_any g A1 c1 out1 (some ⟨wr.heap.size, 0, none⟩) [b] 1 _ (HW1.out.keeps ((Keeps.refl [] wr).alloc _) (by simp) (fun _ _ => by simp)) (RdB.lit wr [b] 5 (0, 0)) (by simp; omega)).mono ?_
        intro e w2 hp
        obtain ⟨rfl, hst2⟩ := (WrPost.chain hk1 hn1 (WrPost.before HW1.out.nin ((Keeps.refl [] wr).alloc _) hp)).step
        have HS2 := Lib.hid hst2
        clear hp hst2 hsb hlen hk1 hn1
        go_wp2_with fail
        go_roundw
        case rel =>
          refine ⟨j + 1, by omega, by go_num, ?_⟩
          show WrStep _ _ _ _ _
          have e : out ++ f :: (be (bh n) n).take (j + 1) = out1 ++ [b] := by rw [ho1.out, be_take _ _ _ hlt, HBB.out]; simp
          rw [e]; exact HS2.out
        case measure => simp [intOf]; omega
      · have hjk : j = bh n := by omega
        have HJ := Lib.hid hjk
        clear hjk
        go_wp2_with fail
        go_ret
        have := hst.out
        rw [HJ.out, List.take_of_length_le (by simp), HF.out] at this
        exact this.post
end Go.Proofs.Ythppbefemfkccaa
