/- What the program's writer does: contracts. slices.Clone at bytes: a contract. More of what the program's writer does: contracts. An operation under a guard that is met is as one without a guard. No program is named here. A filter in memory; a filter begun, and the bits that a key asks for: contracts. An error of the program by its number: nil for 0. -/
import Derived.Test.YthppbefemfkccaaDoorQBloomReads3
import Derived.Test.YthppbefemfkccaaDoorQBloomReads1
import Derived.Lib.SliceRun
import Derived.LaidEqlPtr
import Derived.Test.YthppbefemfkccaaDoorQBloomReads2
import Derived.Lib.ConvBytes
import Derived.Laws.DeepNot64
import Derived.Test.YthppbefemfkccaaDoorProg
import Derived.Laws.MakeOwn
import Derived.Laws.OwnMore
namespace Go.Proofs.YthppbefemfkccaaDoor
open Go.RowKit

/-! ## behind, head -/
theorem behind_any (n : Nat) (w : World) (hn : n < 18446744073709551616) :
    Calls Tryd.prog 53 #[.int .u64 n] w fun e w' => e = .returned (.int .i64 (bh n : Nat)) ∧ w = w' := by
  have hb := Lib.hid (bh_bitLen n hn)
  have h64 : Lib.bitLen n ≤ 64 := Lib.bitLen_le n 64 (by omega) hn
  go_enter Tryd.func53, Tryd.ntmps53
  go_wp2_with fail
  refine (Tryd.bits_Len64 n _ (by omega) (by omega)).mono ?_
  rintro e w' ⟨rfl, rfl⟩
  go_wp2_with fail
  go_ret
  exact ⟨ret_int (by rw [← hb.out]; omega), rfl⟩

theorem head_any (k : Nat) (w : World) (hk : k ≤ 8) :
    Calls Tryd.prog 54 #[.int .i64 k] w fun e w' => e = .returned (.int .u8 ((256 - 2 ^ (8 - k) : Nat) : Int)) ∧ w = w' := by
  have hs : k = 0 ∨ k = 1 ∨ k = 2 ∨ k = 3 ∨ k = 4 ∨ k = 5 ∨ k = 6 ∨ k = 7 ∨ k = 8 := by omega
  rcases hs with rfl | rfl | rfl | rfl | rfl | rfl | rfl | rfl | rfl
  all_goals
    go_enter Tryd.func54, Tryd.ntmps54
    go_wp2_with fail
    go_ret
    exact ⟨ret_int (by decide), rfl⟩

/-! ## The writer -/
/-- A writer: its block, and its bytes in a row of their own. -/
def Wr (w : World) (g : Nat) (A : Option Addr) (c : Nat) (out : List UInt8) : Prop :=
  w.heap[g]? = some (.cells #[.slice A out.length c] 106 (0, 0)) ∧ OwnB 5 w A c out ∧ (∀ a, A = some a → a.block ≠ g)
theorem Wr.lt {w : World} {g : Nat} {A : Option Addr} {c : Nat} {out : List UInt8} (h : Wr w g A c out) : g < w.heap.size := lt_of_block h.1
theorem Wr.keeps {S : List Nat} {w w' : World} {g : Nat} {A : Option Addr} {c : Nat} {out : List UInt8} (h : Wr w g A c out) (hk : Keeps S w w') (hg : g ∉ S) (hA : ∀ a, A = some a → a.block ∉ S) : Wr w' g A c out :=
  ⟨(hk.block g h.lt hg).trans h.1, h.2.1.keeps hk hA, h.2.2⟩
/-- A call that lays bytes behind those of a writer, and hands the writer back. -/
def WrPost (g : Nat) (A : Option Addr) (spec : List UInt8) (w : World) (e : Ending) (w' : World) : Prop :=
  ∃ A' c' out', Hid (out' = spec) ∧ e = .returned (.pointer (some ⟨g, 0, none⟩)) ∧ Wr w' g A' c' out' ∧ Keeps (g :: blk A) w w' ∧ (∀ a, A' = some a → a.block ∈ blk A ∨ w.heap.size ≤ a.block)
theorem WrPost.chain {g : Nat} {A A1 : Option Addr} {s : List UInt8} {w w1 : World} {e : Ending} {w2 : World} (hk : Keeps (g :: blk A) w w1) (hn : ∀ a, A1 = some a → a.block ∈ blk A ∨ w.heap.size ≤ a.block) (h : WrPost g A1 s w1 e w2) : WrPost g A s w e w2 := by
  obtain ⟨A', c', out', ho, he, hw, hk2, hn2⟩ := h
  have sub : ∀ t ∈ blk A1, t ∈ blk A ∨ w.heap.size ≤ t := by
    intro t ht
    obtain ⟨a, e1, e2⟩ := mem_blk.1 ht
    rw [← e2]
    exact hn a e1
  refine ⟨A', c', out', ho, he, hw, hk.trans hk2 (fun t ht => ?_), fun a ha => ?_⟩
  · rcases List.mem_cons.1 ht with rfl | ht
    · exact .inl (by simp)
    · rcases sub t ht with h | h
      · exact .inl (by simp [h])
      · exact .inr h
  · rcases hn2 a ha with h | h
    · exact sub _ h
    · exact .inr (Nat.le_trans hk.size h)

/-- The same between two calls. -/
def WrStep (g : Nat) (A : Option Addr) (spec : List UInt8) (w w' : World) : Prop :=
  ∃ A' c' out', Hid (out' = spec) ∧ Wr w' g A' c' out' ∧ Keeps (g :: blk A) w w' ∧ (∀ a, A' = some a → a.block ∈ blk A ∨ w.heap.size ≤ a.block)
theorem WrPost.step {g : Nat} {A : Option Addr} {s : List UInt8} {w : World} {e : Ending} {w' : World} (h : WrPost g A s w e w') : e = .returned (.pointer (some ⟨g, 0, none⟩)) ∧ WrStep g A s w w' := by
  obtain ⟨A', c', out', ho, he, hw, hk, hn⟩ := h
  exact ⟨he, A', c', out', ho, hw, hk, hn⟩
theorem WrStep.post {g : Nat} {A : Option Addr} {s : List UInt8} {w w' : World} (h : WrStep g A s w w') : WrPost g A s w (.returned (.pointer (some ⟨g, 0, none⟩))) w' := by
  obtain ⟨A', c', out', ho, hw, hk, hn⟩ := h
  exact ⟨A', c', out', ho, rfl, hw, hk, hn⟩
theorem WrStep.refl {w : World} {g : Nat} {A : Option Addr} {c : Nat} {out : List UInt8} (h : Wr w g A c out) : WrStep g A out w w := ⟨A, c, out, rfl, h, Keeps.refl _ _, fun a ha => .inl (mem_blk.2 ⟨a, ha, rfl⟩)⟩
theorem Wr.nin {w : World} {g : Nat} {A : Option Addr} {c : Nat} {out : List UInt8} (h : Wr w g A c out) : ∀ t ∈ g :: blk A, t < w.heap.size := by
  intro t ht
  rcases List.mem_cons.1 ht with rfl | ht
  · exact h.lt
  · obtain ⟨a, e1, e2⟩ := mem_blk.1 ht
    rw [← e2]; exact h.2.1.lt a e1
/-- New blocks ahead of the call. -/
theorem WrStep.before {g : Nat} {A : Option Addr} {s : List UInt8} {w w1 w2 : World} (_h : ∀ t ∈ g :: blk A, t < w.heap.size) (hk : Keeps [] w w1) (h : WrStep g A s w1 w2) : WrStep g A s w w2 := by
  obtain ⟨A', c', out', ho, hw, hk1, hn⟩ := h
  exact ⟨A', c', out', ho, hw, (hk.mono (by simp)).trans hk1 (fun t ht => .inl ht), fun a ha => (hn a ha).imp id (fun h => Nat.le_trans hk.size h)⟩
theorem WrPost.before {g : Nat} {A : Option Addr} {s : List UInt8} {w w1 : World} {e : Ending} {w2 : World} (_h : ∀ t ∈ g :: blk A, t < w.heap.size) (hk : Keeps [] w w1) (h : WrPost g A s w1 e w2) : WrPost g A s w e w2 := by
  obtain ⟨A', c', out', ho, he, hw, hk1, hn⟩ := h
  exact ⟨A', c', out', ho, he, hw, (hk.mono (by simp)).trans hk1 (fun t ht => .inl ht), fun a ha => (hn a ha).imp id (fun h => Nat.le_trans hk.size h)⟩
/-- New blocks beside the writer. -/
theorem WrStep.more {g : Nat} {A : Option Addr} {s : List UInt8} {w w1 w2 : World} (h : WrStep g A s w w1) (hk : Keeps [] w1 w2) : WrStep g A s w w2 := by
  obtain ⟨A', c', out', ho, hw, hk1, hn⟩ := h
  exact ⟨A', c', out', ho, hw.keeps hk (by simp) (fun _ _ => by simp), hk1.trans hk (by simp), hn⟩

theorem raw_any (g : Nat) (A : Option Addr) (c : Nat) (out : List UInt8) (A2 : Option Addr) (l : List UInt8) (c2 : Nat) (w : World) (hw : Wr w g A c out) (hr : RdB w A2 l) (hb : out.length + l.length ≤ 140737488355328) :
    Calls Tryd.prog 55 #[.pointer (some ⟨g, 0, none⟩), .slice A2 l.length c2] w (WrPost g A (out ++ l) w) := by
  have hc : w.cell? ⟨g, 0, none⟩ = some (.slice A out.length c) := by rw [cell_of_row _ _ _ _ _ _ hw.1]; rfl
  have HW := Lib.hid hw
  have HR := Lib.hid hr
  clear hw hr
  go_enter Tryd.func55, Tryd.ntmps55
  go_wp2_with (at_builtin; refine wpList_appendB rfl (.tmp 11) (.tmp 12) 44 5 rfl Tryd.underlying44 infoB A c out rfl HW.out.2.1 A2 c2 l rfl HR.out hb ?_; intro A' c' w1 l1 hl1 ho hk hb1; have hc1 := hk.cell hc (by intro hm; obtain ⟨a1, e1, e2⟩ := mem_blk.1 hm; exact HW.out.2.2 a1 e1 e2); have hf1 := frozen_of_row w1 g 0 _ _ ((hk.block g HW.out.lt (by intro hm; obtain ⟨a1, e1, e2⟩ := mem_blk.1 hm; exact HW.out.2.2 a1 e1 e2)).trans HW.out.1); have HO := Lib.hid ho; have HK := Lib.hid hk; have HB := Lib.hid hb1; clear ho hk hb1)
  go_ret
  have hgA : g ∉ blk A := by
    intro hm
    obtain ⟨a1, e1, e2⟩ := mem_blk.1 hm
    exact HW.out.2.2 a1 e1 e2
  have hne : ∀ a, A' = some a → a.block ≠ g := by
    intro a ha
    rcases HB.out a ha with h | h
    · intro e; rw [e] at h; exact hgA h
    · have := HW.out.lt; omega
  have hblk := (HK.out.block g HW.out.lt hgA).trans HW.out.1
  refine ⟨A', c', l1, hl1, rfl, ⟨?_, ?_, hne⟩, ?_, HB.out⟩
  · rw [heap_setCell_same w1 g 0 _ _ _ hblk]; rfl
  · exact OwnB.keeps HO.out (Keeps.setCell (S := [g]) (p := ⟨g, 0, none⟩) (Keeps.refl [g] w1) (.inl (by simp)) _) (fun a ha => by simpa using hne a ha)
  · exact Keeps.setCell (p := ⟨g, 0, none⟩) (HK.out.mono (fun t ht => .inl (by simp [ht]))) (.inl (by simp)) _

/-- By a nil writer nothing is laid. -/
theorem raw_nil (v : Value) (w : World) : Calls Tryd.prog 55 #[.pointer none, v] w fun e w' => e = .returned (.pointer none) ∧ w = w' := by
  go_enter Tryd.func55, Tryd.ntmps55
  go_wp2_with fail
  go_ret
  exact ⟨rfl, rfl⟩

theorem first_or (k x : Nat) (hk : k < 8) (hx : x < 2 ^ (7 - k)) : bits .or .u8 ((256 - 2 ^ (8 - k) : Nat) : Int) (x : Int) = ((256 - 2 ^ (8 - k) + x : Nat) : Int) := by
  have h2 : (2 : Nat) ^ (7 - k) ≤ 128 := Nat.pow_le_pow_right (by omega) (show 7 - k ≤ 7 by omega)
  have h3 : (2 : Nat) ^ (8 - k) = 2 * 2 ^ (7 - k) := by rw [show 8 - k = (7 - k) + 1 by omega, Nat.pow_succ, Nat.mul_comm]
  have h1 : 0 < 2 ^ (7 - k) := Nat.two_pow_pos _
  rw [u8_or_nat _ _ (by omega) (by omega), nat_join (8 - k) _ _ ?_ (by omega)]
  have hs : k = 0 ∨ k = 1 ∨ k = 2 ∨ k = 3 ∨ k = 4 ∨ k = 5 ∨ k = 6 ∨ k = 7 := by omega
  rcases hs with rfl | rfl | rfl | rfl | rfl | rfl | rfl | rfl <;> decide

theorem shr_byte (n k j : Nat) : ((n : Int) / 2 ^ (8 * (k - 1 - j)) % 256) = ((UInt8.ofNat (n / 2 ^ (8 * (k - 1 - j)) % 256)).toNat : Int) := by
  rw [UInt8.toNat_ofNat', Nat.mod_mod]
  simp
theorem first_byte (n : Nat) (hk : bh n < 8) : bits .or .u8 ((256 - 2 ^ (8 - bh n) : Nat) : Int) ((n : Int) / 2 ^ (8 * bh n) % 256) = ((UInt8.ofNat (256 - 2 ^ (8 - bh n) + n / 2 ^ (8 * bh n))).toNat : Int) := by
  have hx := bh_top n hk
  have h2 : (2 : Nat) ^ (7 - bh n) ≤ 128 := Nat.pow_le_pow_right (by omega) (show 7 - bh n ≤ 7 by omega)
  have h3 : (2 : Nat) ^ (8 - bh n) = 2 * 2 ^ (7 - bh n) := by rw [show 8 - bh n = (7 - bh n) + 1 by omega, Nat.pow_succ, Nat.mul_comm]
  have e : ((n : Int) / 2 ^ (8 * bh n) % 256) = ((n / 2 ^ (8 * bh n) : Nat) : Int) := by
    have : ((n / 2 ^ (8 * bh n) : Nat) : Int) = (n : Int) / 2 ^ (8 * bh n) := by simp
    rw [← this]
    generalize n / 2 ^ (8 * bh n) = x at hx
    omega
  rw [e, first_or _ _ hk hx, UInt8.toNat_ofNat']
  omega

set_option maxHeartbeats 1000000 in
/-- What Uint does behind its first byte. -/
theorem uint_any (n : Nat) (g : Nat) (A : Option Addr) (c : Nat) (out : List UInt8) (w : World) (hn : n < 18446744073709551616) (hw : Wr w g A c out) (hb : out.length + 18 ≤ 140737488355328) :
    Calls Tryd.prog 35 #[.pointer (some ⟨g, 0, none⟩), .int .u64 n] w (WrPost g A (out ++ uintB n) w) := by
  have HW := Lib.hid hw
  have hk8 := bh_le n
  obtain ⟨f, hf⟩ : ∃ f : UInt8, f = UInt8.ofNat (256 - 2 ^ (8 - bh n) + n / 2 ^ (8 * bh n)) := ⟨_, rfl⟩
  clear hw
  by_cases hk : bh n < 8
  · have hor := first_byte n hk
    rw [← hf] at hor
    have HF := Lib.hid hf
    clear hf
    go_enter Tryd.func35, Tryd.ntmps35
    go_wp2_with fail
    refine (behind_any n _ hn).mono ?_
    rintro e w' ⟨rfl, rfl⟩
    go_wp2_with fail
    refine (head_any (bh n) _ hk8).mono ?_
    rintro e w' ⟨rfl, rfl⟩
    go_wp2_with fail
    refine (raw_any g A c out (some ⟨w.heap.size, 0, none⟩) [f] 1 _ (HW.out.keeps ((Keeps.refl [] w).alloc _) (by simp) (fun _ _ => by simp)) (RdB.lit w [f] 5 (0, 0)) (by simp; omega)).mono ?_
    intro e w1 hp
    obtain ⟨rfl, hst⟩ := hp.step
    have HS := Lib.hid (WrStep.before (HW.out.nin) ((Keeps.refl [] w).alloc _) hst)
    clear hp hst hor
    go_wp2_with fail
    go_loopw [26] (fun i wr => ∃ j : Nat, j ≤ bh n ∧ i = .int .i64 j ∧ Hid (WrStep g A (out ++ f :: (be (bh n) n).take j) w wr)) (fun i _ => bh n - (intOf i).toNat)
    case atStart => exact ⟨0, Nat.zero_le _, rfl, by show WrStep _ _ _ _ _; rw [List.take_zero]; exact HS.out⟩
    case round =>
      obtain ⟨j, hj, rfl, hst⟩ := hrel
      by_cases hlt : j < bh n
      · have hsb := shr_byte n (bh n) j
        obtain ⟨b, hbb⟩ : ∃ b : UInt8, b = UInt8.ofNat (n / 2 ^ (8 * (bh n - 1 - j)) % 256) := ⟨_, rfl⟩
        rw [← hbb] at hsb
        have HBB := Lib.hid hbb
        clear hbb
        obtain ⟨A1, c1, out1, ho1, hw1, hk1, hn1⟩ := hst.out
        have HW1 := Lib.hid hw1
        have hlen : out1.length ≤ out.length + 9 := by rw [ho1.out]; simp; omega
        clear hw1
        go_wp2_with fail
        refine (raw_any g A1 c1 out1 (some ⟨wr.heap.size, 0, none⟩) [b] 1 _ (HW1.out.keeps ((Keeps.refl [] wr).alloc _) (by simp) (fun _ _ => by simp)) (RdB.lit wr [b] 5 (0, 0)) (by simp; omega)).mono ?_
        intro e w2 hp
        obtain ⟨rfl, hst2⟩ := (WrPost.chain hk1 hn1 (WrPost.before HW1.out.nin ((Keeps.refl [] wr).alloc _) hp)).step
        have HS2 := Lib.hid hst2
        clear hp hst2 hsb hlen hk1 hn1
        go_wp2_with fail
        go_roundw
        case rel =>
          refine ⟨j + 1, by omega, by go_num, ?_⟩
          show WrStep _ _ _ _ _
          have e : out ++ f :: (be (bh n) n).take (j + 1) = out1 ++ [b] := by rw [ho1.out, be_take _ _ _ hlt, HBB.out]; simp
          rw [e]; exact HS2.out
        case measure => simp [intOf]; omega
      · have hjk : j = bh n := by omega
        have HJ := Lib.hid hjk
        clear hjk
        go_wp2_with fail
        go_ret
        have := hst.out
        rw [HJ.out, List.take_of_length_le (by simp), HF.out] at this
        exact this.post
  · have hk' : bh n = 8 := by omega
    have hor : ((256 - 2 ^ (8 - bh n) : Nat) : Int) = (f.toNat : Int) := by rw [hf, bh_top8 n hn hk', hk']; decide
    have HF := Lib.hid hf
    clear hf
    have HK := Lib.hid hk'
    clear hk'
    go_enter Tryd.func35, Tryd.ntmps35
    go_wp2_with fail
    refine (behind_any n _ hn).mono ?_
    rintro e w' ⟨rfl, rfl⟩
    go_wp2_with fail
    refine (head_any (bh n) _ hk8).mono ?_
    rintro e w' ⟨rfl, rfl⟩
    go_wp2_with fail
    refine (raw_any g A c out (some ⟨w.heap.size, 0, none⟩) [f] 1 _ (HW.out.keeps ((Keeps.refl [] w).alloc _) (by simp) (fun _ _ => by simp)) (RdB.lit w [f] 5 (0, 0)) (by simp; omega)).mono ?_
    intro e w1 hp
    obtain ⟨rfl, hst⟩ := hp.step
    have HS := Lib.hid (WrStep.before (HW.out.nin) ((Keeps.refl [] w).alloc _) hst)
    clear hp hst hor
    go_wp2_with fail
    go_loopw [26] (fun i wr => ∃ j : Nat, j ≤ bh n ∧ i = .int .i64 j ∧ Hid (WrStep g A (out ++ f :: (be (bh n) n).take j) w wr)) (fun i _ => bh n - (intOf i).toNat)
    case atStart => exact ⟨0, Nat.zero_le _, rfl, by show WrStep _ _ _ _ _; rw [List.take_zero]; exact HS.out⟩
    case round =>
      obtain ⟨j, hj, rfl, hst⟩ := hrel
      by_cases hlt : j < bh n
      · have hsb := shr_byte n (bh n) j
        obtain ⟨b, hbb⟩ : ∃ b : UInt8, b = UInt8.ofNat (n / 2 ^ (8 * (bh n - 1 - j)) % 256) := ⟨_, rfl⟩
        rw [← hbb] at hsb
        have HBB := Lib.hid hbb
        clear hbb
        obtain ⟨A1, c1, out1, ho1, hw1, hk1, hn1⟩ := hst.out
        have HW1 := Lib.hid hw1
        have hlen : out1.length ≤ out.length + 9 := by rw [ho1.out]; simp; omega
        clear hw1
        go_wp2_with fail
        refine (raw_any g A1 c1 out1 (some ⟨wr.heap.size, 0, none⟩) [b] 1 _ (HW1.out.keeps ((Keeps.refl [] wr).alloc _) (by simp) (fun _ _ => by simp)) (RdB.lit wr [b] 5 (0, 0)) (by simp; omega)).mono ?_
        intro e w2 hp
        obtain ⟨rfl, hst2⟩ := (WrPost.chain hk1 hn1 (WrPost.before HW1.out.nin ((Keeps.refl [] wr).alloc _) hp)).step
        have HS2 := Lib.hid hst2
        clear hp hst2 hsb hlen hk1 hn1
        go_wp2_with fail
        go_roundw
        case rel =>
          refine ⟨j + 1, by omega, by go_num, ?_⟩
          show WrStep _ _ _ _ _
          have e : out ++ f :: (be (bh n) n).take (j + 1) = out1 ++ [b] := by rw [ho1.out, be_take _ _ _ hlt, HBB.out]; simp
          rw [e]; exact HS2.out
        case measure => simp [intOf]; omega
      · have hjk : j = bh n := by omega
        have HJ := Lib.hid hjk
        clear hjk
        go_wp2_with fail
        go_ret
        have := hst.out
        rw [HJ.out, List.take_of_length_le (by simp), HF.out] at this
        exact this.post
end Go.Proofs.YthppbefemfkccaaDoor
namespace Go.Proofs.YthppbefemfkccaaDoor
open Go.RowKit

theorem NewB.before {E : TypeId} {s : List UInt8} {w w1 : World} {e : Ending} {w' : World} (hk : Keeps [] w w1) (h : NewB E s w1 e w') : NewB E s w e w' := by
  obtain ⟨A, c, l, hl, he, ho, hn, hk1⟩ := h
  exact ⟨A, c, l, hl, he, ho, fun a ha => Nat.le_trans hk.size (hn a ha), hk.trans hk1 (by simp)⟩
theorem NewB.spec {E : TypeId} {s s' : List UInt8} {w : World} {e : Ending} {w' : World} (h : NewB E s w e w') (hs : s = s') : NewB E s' w e w' := hs ▸ h
/-- The same between two calls. -/
def NewStep (E : TypeId) (s : List UInt8) (w w' : World) (A : Option Addr) (c : Nat) (l : List UInt8) : Prop := Hid (l = s) ∧ OwnB E w' A c l ∧ (∀ a, A = some a → w.heap.size ≤ a.block) ∧ Keeps [] w w'
theorem NewB.step {E : TypeId} {s : List UInt8} {w : World} {e : Ending} {w' : World} (h : NewB E s w e w') : ∃ A c l, e = .returned (.slice A l.length c) ∧ NewStep E s w w' A c l := by
  obtain ⟨A, c, l, hl, he, ho, hn, hk1⟩ := h
  exact ⟨A, c, l, he, hl, ho, hn, hk1⟩
theorem NewStep.post {E : TypeId} {s : List UInt8} {w w' : World} {A : Option Addr} {c : Nat} {l : List UInt8} (h : NewStep E s w w' A c l) : NewB E s w (.returned (.slice A l.length c)) w' := ⟨A, c, l, h.1, rfl, h.2.1, h.2.2.1, h.2.2.2⟩

theorem own_empty (w : World) : OwnB 5 (w.alloc (.cells #[] 5)) (some ⟨w.heap.size, 0, none⟩) 0 [] := by
  refine ⟨by simp [encB], .inr ⟨w.heap.size, 0, #[], rfl, Nat.zero_le _, heap_alloc_new w _, Nat.le_refl _, by unfold maxLen; omega, by simp, by simp [encB]⟩⟩

theorem clone_any (A : Option Addr) (l : List UInt8) (c : Nat) (w : World) (hl : l.length ≤ 140737488355328) (hr : RdB w A l) :
    Calls Tryd.prog 48 #[.slice A l.length c] w (NewB 5 l w) := by
  have HR := Lib.hid hr
  clear hr
  rcases A with _ | ad
  · have h0 : l = [] := by
      rcases Nat.eq_zero_or_pos l.length with h | h
      · exact List.eq_nil_of_length_eq_zero h
      · obtain ⟨ad, e, _⟩ := HR.out.at_ (k := 0) h
        cases e
    subst h0
    have hn := Lib.run_eql_slice_nil (P := Tryd.prog) w 44 5 none 0 c 0 0 Tryd.underlying44
    go_enter Tryd.func48, Tryd.ntmps48
    go_wp2_with fail
    go_ret
    exact ⟨none, 0, [], rfl, rfl, OwnB.nil _ _, by simp, Keeps.refl [] w⟩
  · have hn := Lib.run_eql_slice_nil (P := Tryd.prog) w 44 5 (some ad) l.length c 0 0 Tryd.underlying44
    go_enter Tryd.func48, Tryd.ntmps48
    go_wp2_with (at_builtin; refine wpList_appendB rfl (.tmp 5) (.tmp 6) 44 5 rfl Tryd.underlying44 infoB (some ⟨w.heap.size, 0, none⟩) 0 [] rfl (own_empty w) (some ad) c l rfl (HR.out.alloc _) (by simp; omega) ?_; intro A' c' w' l' hl' ho hk hb)
    go_ret
    refine ⟨A', c', l', hl', rfl, ho, fun a ha => ?_, ((Keeps.refl [] w).alloc _).trans hk (by simp [blk])⟩
    rcases hb a ha with h | h
    · simp [blk] at h; omega
    · simp at h; omega
end Go.Proofs.YthppbefemfkccaaDoor
namespace Go.Proofs.YthppbefemfkccaaDoor
open Go.RowKit

theorem WrPost.spec {g : Nat} {A : Option Addr} {s s' : List UInt8} {w : World} {e : Ending} {w' : World} (h : WrPost g A s w e w') (hs : s = s') : WrPost g A s' w e w' := hs ▸ h

/-- A new writer. -/
theorem new_any (w : World) : Calls Tryd.prog 34 #[] w fun e w' => e = .returned (.pointer (some ⟨w.heap.size, 0, none⟩)) ∧ Wr w' w.heap.size none 0 [] ∧ Keeps [] w w' := by
  go_enter Tryd.func34, Tryd.ntmps34
  go_wp2_with fail
  go_ret
  exact ⟨rfl, ⟨heap_alloc_new _ _, OwnB.nil _ _, by simp⟩, (Keeps.refl [] w).alloc _⟩

theorem one_any (b : UInt8) (v : Int) (hv : v = (b.toNat : Int)) (g : Nat) (A : Option Addr) (c : Nat) (out : List UInt8) (w : World) (hw : Wr w g A c out) (hb : out.length + 1 ≤ 140737488355328) :
    Calls Tryd.prog 55 #[.pointer (some ⟨g, 0, none⟩), .slice (some ⟨w.heap.size, 0, none⟩) 1 1] (w.alloc (.cells #[.int .u8 v] 5 (0, 0))) (WrPost g A (out ++ [b]) w) := by
  subst hv
  refine (raw_any g A c out (some ⟨w.heap.size, 0, none⟩) [b] 1 _ (hw.keeps ((Keeps.refl [] w).alloc _) (by simp) (fun _ _ => by simp)) (RdB.lit w [b] 5 (0, 0)) (by simp; omega)).mono fun e w' h => ?_
  exact WrPost.before hw.nin ((Keeps.refl [] w).alloc _) h

/-- '^n' at any int. -/
theorem i64_not_any (n : Int) (h1 : -9223372036854775808 ≤ n) (h2 : n ≤ 9223372036854775807) : bits .xor .i64 (-1) n = -(n + 1) := by
  show IntKind.i64.wrap ((BitVec.ofInt 64 (-1) ^^^ BitVec.ofInt 64 n).toNat : Int) = _
  have e1 : BitVec.ofInt 64 (-1) = BitVec.allOnes 64 := by decide
  rw [e1, BitVec.allOnes_xor, BitVec.toNat_not, BitVec.toNat_ofInt]
  simp [IntKind.wrap, IntKind.bits, IntKind.signed]
  omega
/-- An int as bytes. -/
def intB (n : Int) : List UInt8 := if n < 0 then 1 :: uintB (-(n + 1)).toNat else 0 :: uintB n.toNat
theorem length_intB_le (n : Int) : (intB n).length ≤ 10 := by
  unfold intB
  split
  · have := length_uintB_le (-(n + 1)).toNat; simp at this ⊢; omega
  · have := length_uintB_le n.toNat; simp at this ⊢; omega
/-! ## Texts and bytes -/
def lenB (l : List UInt8) : List UInt8 := uintB l.length ++ l
theorem strB_size (l : List UInt8) : (strB l).size = l.length := rfl
theorem rd_conv (w : World) (e : TypeId) (l : List UInt8) : RdB (Lib.bytesWorld w e (strB l)) (some ⟨w.heap.size, 0, none⟩) l := by
  refine ⟨by simp, fun _ => ⟨_, rfl, fun j u hu => ?_⟩⟩
  have hj : j < l.length := by
    have := (List.getElem?_eq_some_iff.1 hu).1
    simpa using this
  rw [add_new, Nat.zero_add, Lib.bytesWorld_cell w e (strB l) j (by rw [strB_size]; exact hj)]
  rw [List.getElem?_eq_getElem (by simpa using hj), encB_get l j hj] at hu
  rw [← hu]
  simp [strB, List.getD_eq_getElem?_getD, List.getElem?_eq_getElem hj]
theorem keeps_conv (w : World) (e : TypeId) (s : ByteArray) : Keeps [] w (Lib.bytesWorld w e s) :=
  ⟨rfl, rfl, rfl, by rw [Lib.bytesWorld_size]; omega, fun k hk _ => Lib.bytesWorld_at_old w e s k hk⟩

theorem bytes_any (g : Nat) (A : Option Addr) (c : Nat) (out : List UInt8) (A2 : Option Addr) (l : List UInt8) (c2 : Nat) (w : World) (hw : Wr w g A c out) (hr : RdB w A2 l) (hA : ∀ a, A2 = some a → 0 < l.length → a.block ≠ g ∧ a.block ∉ blk A) (hb : out.length + l.length + 30 ≤ 140737488355328) :
    Calls Tryd.prog 36 #[.pointer (some ⟨g, 0, none⟩), .slice A2 l.length c2] w (WrPost g A (out ++ lenB l) w) := by
  have HW := Lib.hid hw
  have HR := Lib.hid hr
  have HA := Lib.hid hA
  clear hw hr hA
  go_enter Tryd.func36, Tryd.ntmps36
  go_wp2_with fail
  refine (uint_any l.length g A c out w (by omega) HW.out (by omega)).mono ?_
  intro e w1 hp
  obtain ⟨rfl, hst⟩ := hp.step
  obtain ⟨A1, c1, out1, ho1, hw1, hk1, hn1⟩ := hst
  have hl1 : out1.length ≤ out.length + 9 := by rw [ho1.out]; have := length_uintB_le l.length; simp at this ⊢; omega
  have HW1 := Lib.hid hw1
  have HC := Lib.hid (And.intro hk1 hn1)
  have HR1 := Lib.hid (HR.out.keeps hk1 (fun a e hl => by have := HA.out a e hl; simp [this]))
  clear hw1 hk1 hn1 hp
  go_wp2_with fail
  refine (raw_any g A1 c1 out1 A2 l c2 w1 HW1.out HR1.out (by omega)).mono ?_
  intro e w2 hp
  obtain ⟨rfl, hst⟩ := ((WrPost.chain HC.out.1 HC.out.2 hp).spec (show _ = out ++ lenB l by rw [ho1.out]; simp [lenB])).step
  clear hp
  go_wp2_with fail
  go_ret
  exact hst.post

theorem done_any (g : Nat) (A : Option Addr) (c : Nat) (out : List UInt8) (w : World) (hw : Wr w g A c out) (hb : out.length ≤ 140737488355328) :
    Calls Tryd.prog 37 #[.pointer (some ⟨g, 0, none⟩)] w (NewB 5 out w) := by
  have hc : w.cell? ⟨g, 0, none⟩ = some (.slice A out.length c) := by rw [cell_of_row _ _ _ _ _ _ hw.1]; rfl
  have HW := Lib.hid hw
  clear hw
  go_enter Tryd.func37, Tryd.ntmps37
  go_wp2_with fail
  refine (clone_any A out c w hb HW.out.2.1.rd).mono ?_
  rintro e w' ⟨A1, c1, l1, hl1, rfl, ho1, hn1, hk1⟩
  go_wp2_with fail
  go_ret
  exact ⟨A1, c1, l1, hl1, rfl, ho1, hn1, hk1⟩

/-! ## By a nil writer -/
theorem done_nil (w : World) : Calls Tryd.prog 37 #[.pointer none] w fun e w' => e = .returned (.slice none 0 0) ∧ w = w' := by
  go_enter Tryd.func37, Tryd.ntmps37
  go_wp2_with fail
  go_ret
  exact ⟨rfl, rfl⟩
end Go.Proofs.YthppbefemfkccaaDoor
namespace Go.Proofs.YthppbefemfkccaaDoor
open Go.RowKit
theorem wpList_unguard {P : Program} {ops : Array Oper} {Q : Exit → Act → World → Prop} {a : Act} {w : World} {rest : List Oper} {o : Oper} (hw : Region.wanted o (yielded ops a.tmps) = true)
    (h : wpList P ops Q ({ o with guard := none } :: rest) a w) : wpList P ops Q (o :: rest) a w := by
  unfold wpList at h ⊢
  rw [if_pos hw]
  have h1 : Region.wanted { o with guard := none } (yielded ops a.tmps) = true := by simp [Region.wanted]
  rw [if_pos h1] at h
  exact h
end Go.Proofs.YthppbefemfkccaaDoor
namespace Go.Proofs.YthppbefemfkccaaDoor
open Go.RowKit

theorem own_of_block {E : TypeId} {w : World} {g : Nat} {l : List UInt8} (h : w.heap[g]? = some (.cells (encB l).toArray E (0, 0))) (hl : l.length ≤ maxLen) : OwnB E w (some ⟨g, 0, none⟩) l.length l := by
  refine ⟨by simp, .inr ⟨g, l.length, (encB l).toArray, rfl, Nat.zero_le _, h, Nat.le_refl _, hl, by simp, ?_⟩⟩
  rw [Nat.mul_one]
  exact List.take_of_length_le (by simp)
/-- A filter: so many bits, so many asked, its bytes. -/
def Fm (w : World) (g n k : Nat) (A : Option Addr) (c : Nat) (bs : List UInt8) : Prop :=
  w.heap[g]? = some (.cells #[.int .i64 (n : Int), .int .i64 (k : Int), .slice A bs.length c] 57 (0, 0)) ∧ OwnB 5 w A c bs ∧ ∀ a, A = some a → a.block ≠ g
theorem Fm.lt {w : World} {g n k : Nat} {A : Option Addr} {c : Nat} {bs : List UInt8} (h : Fm w g n k A c bs) : g < w.heap.size := lt_of_block h.1
theorem Fm.keeps {S : List Nat} {w w' : World} {g n k : Nat} {A : Option Addr} {c : Nat} {bs : List UInt8} (h : Fm w g n k A c bs) (hk : Keeps S w w') (hg : g ∉ S) (hA : ∀ a, A = some a → a.block ∉ S) : Fm w' g n k A c bs :=
  ⟨(hk.block g h.lt hg).trans h.1, h.2.1.keeps hk hA, h.2.2⟩
theorem Fm.keeps0 {w w' : World} {g n k : Nat} {A : Option Addr} {c : Nat} {bs : List UInt8} (h : Fm w g n k A c bs) (hk : Keeps [] w w') : Fm w' g n k A c bs := h.keeps hk (by simp) (fun _ _ => by simp)
theorem Fm.cells {w : World} {g n k : Nat} {A : Option Addr} {c : Nat} {bs : List UInt8} (h : Fm w g n k A c bs) : w.cell? ⟨g, 0, none⟩ = some (.int .i64 (n : Int)) ∧ w.cell? ⟨g, 1, none⟩ = some (.int .i64 (k : Int)) ∧ w.cell? ⟨g, 2, none⟩ = some (.slice A bs.length c) := by
  refine ⟨?_, ?_, ?_⟩ <;> (rw [cell_of_row _ _ _ _ _ _ h.1]; rfl)

theorem infoB8 : (Tryd.prog.info? 5).map (fun i => (i.zero, i.size, i.bytes)) = some (some (.int .u8 0), 1, 1) := by kernel_rfl
theorem infoI8 : (Tryd.prog.info? 3).map (fun i => (i.zero, i.size, i.bytes)) = some (some (.int .i64 0), 1, 8) := by kernel_rfl
theorem infoI1 : (Tryd.prog.info? 3).map (·.size) = some 1 := by kernel_rfl
theorem infoB81 : (Tryd.prog.info? 5).map (·.size) = some 1 := by kernel_rfl
theorem made_is (v : Value) (h : v.cells = #[v]) (n : Nat) : madeCells v.cells (n * 1) = (List.replicate n v).toArray := by
  apply Array.ext
  · simp [madeCells]
  · intro i h1 h2
    simp [madeCells, h, Nat.mod_one]
theorem make_bytes (w : World) (m : Nat) (hm : m ≤ 1048576) : (Instr.makeSlice 44 (.int .i64 (m : Int)) (.int .i64 (m : Int))).run Tryd.prog w = .ok (.slice (some ⟨w.heap.size, 0, none⟩) m m) (w.alloc (.cells (encB (List.replicate m 0)).toArray 5)) := by
  obtain ⟨i, hi, hz0, hz1, hz2⟩ := info_parts infoB8
  have := run_make (P := Tryd.prog) w 44 5 i (.int .u8 0) Tryd.underlying44 hi hz0 .i64 .i64 m m (by omega) (Int.le_refl _) (by rw [hz2]; omega) (by omega)
  rw [this, hz1, Int.toNat_natCast, made_is _ rfl]
  simp [encB]
theorem make_ints (w : World) (m : Nat) (hm : m ≤ 1048576) : (Instr.makeSlice 37 (.int .i64 (m : Int)) (.int .i64 (m : Int))).run Tryd.prog w = .ok (.slice (some ⟨w.heap.size, 0, none⟩) m m) (w.alloc (.cells (List.replicate m (.int .i64 0)).toArray 3)) := by
  obtain ⟨i, hi, hz0, hz1, hz2⟩ := info_parts infoI8
  have := run_make (P := Tryd.prog) w 37 3 i (.int .i64 0) Tryd.underlying37 hi hz0 .i64 .i64 m m (by omega) (Int.le_refl _) (by rw [hz2]; omega) (by omega)
  rw [this, hz1, Int.toNat_natCast, made_is _ rfl]

/-- A filter begun. -/
def NewFP (n k : Nat) (w : World) (e : Ending) (w' : World) : Prop :=
  ∃ g A, e = .returned (.tuple #[.pointer (some ⟨g, 0, none⟩), .nilIface]) ∧ Fm w' g n k A ((n + 7) / 8) (List.replicate ((n + 7) / 8) 0) ∧ w.heap.size ≤ g ∧ (∀ a, A = some a → w.heap.size ≤ a.block) ∧ Keeps [] w w'
set_option maxHeartbeats 2000000 in
theorem bnew_any (n k : Nat) (w : World) (hn : 1 ≤ n ∧ n ≤ 1048576) (hk : 1 ≤ k ∧ k ≤ 16) :
    Calls Tryd.prog 6 #[.int .i64 n, .int .i64 k] w (NewFP n k w) := by
  obtain ⟨m, hm⟩ : ∃ m, m = (n + 7) / 8 := ⟨_, rfl⟩
  have t1 : (n : Int) + 7 = ((n + 7 : Nat) : Int) := by omega
  have t2 : ((n : Int) + 7).tdiv 8 = (m : Int) := by rw [Int.tdiv_eq_ediv_of_nonneg (by omega)]; omega
  have t3 : ((n : Int) + 7) / 8 = (m : Int) := by omega
  have t4 : IntKind.i64.wrap ((n : Int) + 7) = (n : Int) + 7 := by rw [IntKind.wrap_i64]; omega
  have hms := make_bytes w m (by omega)
  have HM := Lib.hid (show m = (n + 7) / 8 ∧ m ≤ 1048576 from ⟨hm, by omega⟩)
  obtain ⟨hn1, hn2⟩ := hn
  obtain ⟨hk1, hk2⟩ := hk
  have c1 : ¬ ((n : Int) < 1) := by omega
  have c2 : ¬ (1048576 < (n : Int)) := by omega
  have c3 : ¬ ((k : Int) < 1) := by omega
  have c4 : ¬ (16 < (k : Int)) := by omega
  clear hm hn1 hn2 hk1 hk2 t1
  go_enter Tryd.func6, Tryd.ntmps6
  go_wp2_with fail
  go_ret2
  unfold NewFP
  rw [← HM.out.1]
  have HB : BB (w.alloc (.cells (encB (List.replicate m 0)).toArray 5)) w.heap.size 5 (List.replicate m 0) := heap_alloc_new _ _
  refine ⟨w.heap.size + 1, some ⟨w.heap.size, 0, none⟩, rfl, ⟨?_, ?_, ?_⟩, by omega, ?_, ((Keeps.refl [] w).alloc _).alloc _⟩
  · have h := heap_alloc_new (w.alloc (.cells (encB (List.replicate m 0)).toArray 5)) (.cells #[.int .i64 (n : Int), .int .i64 (k : Int), .slice (some ⟨w.heap.size, 0, none⟩) m m] 57)
    simpa using h
  · have h := own_of_block (HB.keeps ((Keeps.refl [] _).alloc (.cells #[.int .i64 (n : Int), .int .i64 (k : Int), .slice (some ⟨w.heap.size, 0, none⟩) m m] 57)) (by simp)) (by have := HM.out.2; simp [maxLen]; omega)
    simpa using h
  · intro a ha; cases ha; simp
  · intro a ha; cases ha; simp

/-- Whole numbers in a block. -/
def encI (l : List Nat) : List Value := l.map fun (x : Nat) => .int .i64 (x : Int)
@[simp] theorem length_encI (l : List Nat) : (encI l).length = l.length := by simp [encI]
def IB (w : World) (g : Nat) (xs : List Value) : Prop := w.heap[g]? = some (.cells xs.toArray 3 (0, 0))
theorem IB.keeps {S : List Nat} {w w' : World} {g : Nat} {xs : List Value} (h : IB w g xs) (hk : Keeps S w w') (hg : g ∉ S) : IB w' g xs := (hk.block g (lt_of_block h) hg).trans h
theorem IB.cell {w : World} {g : Nat} {xs : List Value} (h : IB w g xs) (i : Nat) (hi : i < xs.length) : w.cell? ⟨g, i, none⟩ = some xs[i] := by
  rw [cell_of_row _ _ _ _ _ _ h, List.getElem?_toArray, List.getElem?_eq_getElem hi]
theorem IB.set {w : World} {g : Nat} {xs : List Value} (h : IB w g xs) (i : Nat) (v : Value) : IB (w.setCell ⟨g, i, none⟩ v) g (xs.set i v) := by
  unfold IB
  rw [heap_setCell_same w g i _ _ _ h]
  simp
/-- The bits that a key asks for, in new memory. -/
def BitsP (n k : Nat) (s : List UInt8) (w : World) (e : Ending) (w' : World) : Prop :=
  ∃ g, e = .returned (.slice (some ⟨g, 0, none⟩) k k) ∧ IB w' g (encI (bitsK n k s)) ∧ w.heap.size ≤ g ∧ Keeps [] w w'
set_option maxHeartbeats 8000000 in
theorem bits_any (g n k : Nat) (A : Option Addr) (c : Nat) (bs : List UInt8) (s : List UInt8) (w : World) (h : Fm w g n k A c bs) (hn : 1 ≤ n ∧ n ≤ 1048576) (hk : 1 ≤ k ∧ k ≤ 16) (hs : s.length ≤ 140737488351232) :
    Calls Tryd.prog 11 #[.pointer (some ⟨g, 0, none⟩), .string (strB s)] w (BitsP n k s w) := by
  have H := Lib.hid h
  have HS := Lib.hid hs
  have kc := Lib.run_convert_string_bytes (P := Tryd.prog) w 9 44 5 (strB s) Tryd.underlying9 Tryd.underlying44 Tryd.underlying5
  rw [strB_size] at kc
  obtain ⟨W1, hW1⟩ : ∃ W1, W1 = Lib.bytesWorld w 5 (strB s) := ⟨_, rfl⟩
  have HK1 := Lib.hid (show Keeps [] w W1 by rw [hW1]; exact keeps_conv w _ _)
  have HR1 := Lib.hid (show RdB W1 (some ⟨w.heap.size, 0, none⟩) s by rw [hW1]; exact rd_conv w _ s)
  rw [← hW1] at kc
  obtain ⟨a, ha⟩ : ∃ a, a = keyA s := ⟨_, rfl⟩
  obtain ⟨b, hb⟩ : ∃ b, b = keyB s := ⟨_, rfl⟩
  have ha2 : a < 2147483647 := by rw [ha]; exact keyA_lt s
  have hb2 : b < 2147483647 := by rw [hb]; exact keyB_lt s
  have HA := Lib.hid (show hmore 1 s = (a : Int) by rw [ha]; exact keyA_is s)
  have HB := Lib.hid (show hmore 1 (1 :: s) = (b : Int) by rw [hb]; exact keyB_is s)
  have HBK := Lib.hid (show ∀ i, bitK n s i = (a + i * b) % n from fun i => by rw [ha, hb]; rfl)
  obtain ⟨hn1, hn2⟩ := hn
  obtain ⟨hk1, hk2⟩ := hk
  clear h hs hW1 ha hb
  go_enter Tryd.func11, Tryd.ntmps11
  go_wp2_with fail
  refine (sum_any (some ⟨w.heap.size, 0, none⟩) s _ W1 (by have := HS.out; omega) HR1.out).mono ?_
  rintro e w1 ⟨rfl, rfl⟩
  rw [HA.out]
  have hown := own_of_block (E := 5) (w := W1.alloc (.cells (encB [1]).toArray 5)) (g := W1.heap.size) (l := [1]) (heap_alloc_new _ _) (by decide)
  have HOW := Lib.hid hown
  clear hown kc
  go_wp2_with (at_builtin; refine wpList_appendS rfl (.tmp 15) (.tmp 16) 44 9 5 rfl Tryd.underlying44 Tryd.underlying9 infoB8 (some ⟨W1.heap.size, 0, none⟩) 1 [1] rfl HOW.out s rfl (by have := HS.out; simp; omega) ?_
               intro A2 c2 w2 l2 hl2 ho2 hk2 hb2
               have H2 := Lib.hid (show RdB w2 A2 l2 ∧ l2 = 1 :: s ∧ Keeps [] w w2 from ⟨ho2.rd, hl2.out, (HK1.out.alloc _).fresh hk2 (fun ad e => by cases e; exact HK1.out.size)⟩)
               clear hl2 ho2 hk2 hb2 HOW)
  refine (sum_any A2 l2 c2 w2 (by rw [H2.out.2.1]; have := HS.out; simp; omega) H2.out.1).mono ?_
  rintro e w3 ⟨rfl, rfl⟩
  rw [H2.out.2.1, HB.out]
  have HF := Lib.hid (H.out.keeps0 H2.out.2.2)
  have q1 := HF.out.cells.2.1
  have hms := make_ints w2 k (by omega)
  obtain ⟨gl, hgl⟩ : ∃ gl, gl = w2.heap.size := ⟨_, rfl⟩
  obtain ⟨W4, hW4⟩ : ∃ W4, W4 = w2.alloc (.cells (List.replicate k (.int .i64 0)).toArray 3) := ⟨_, rfl⟩
  rw [← hW4, ← hgl] at hms
  have HG := Lib.hid (show w.heap.size ≤ gl ∧ g < gl ∧ ∀ a, A = some a → a.block < gl from ⟨by rw [hgl]; exact H2.out.2.2.size, by rw [hgl]; exact HF.out.lt, by rw [hgl]; exact HF.out.2.1.lt⟩)
  have INV := Lib.hid (show ∃ xs : List Value, xs.length = k ∧ xs.take 0 = (encI (bitsK n k s)).take 0 ∧ IB W4 gl xs ∧ Fm W4 g n k A c bs ∧ Keeps [] w W4 from by
    rw [hW4, hgl]
    exact ⟨_, by simp, by simp, heap_alloc_new _ _, HF.out.keeps0 ((Keeps.refl [] w2).alloc _), H2.out.2.2.alloc _⟩)
  clear hgl hW4 H2 HF HK1 HR1
  go_wp2_with fail
  go_loopw [27] (fun si wr => ∃ i : Nat, i ≤ k ∧ si = .int .i64 i ∧ Hid (∃ xs : List Value, xs.length = k ∧ xs.take i = (encI (bitsK n k s)).take i ∧ IB wr gl xs ∧ Fm wr g n k A c bs ∧ Keeps [] w wr)) (fun si _ => k - (intOf si).toNat)
  case atStart => exact ⟨0, Nat.zero_le _, rfl, INV.out⟩
  case round =>
    clear INV q1 hms
    obtain ⟨i, hi, rfl, hinv⟩ := hrel
    by_cases hlt : i < k
    · have hik : (i : Int) < (k : Int) := by omega
      obtain ⟨xs, hxl, hxt, hib, hfm, hkp⟩ := hinv.out
      have q0 := hfm.cells.1
      obtain ⟨m, hm⟩ : ∃ m, m = i * b := ⟨_, rfl⟩
      obtain ⟨sm, hsm⟩ : ∃ z, z = a + m := ⟨_, rfl⟩
      obtain ⟨r, hr⟩ : ∃ r, r = sm % n := ⟨_, rfl⟩
      have hmb : m < 34359738368 := by
        have h1 : i * b ≤ 15 * 2147483647 := Nat.mul_le_mul (by omega) (by omega)
        omega
      have f0 : IntKind.u64.wrap (i : Int) = (i : Int) := by rw [IntKind.wrap_u64]; omega
      have f1 : IntKind.u64.wrap ((i : Int) * (b : Int)) = (m : Int) := by
        rw [show (i : Int) * (b : Int) = (m : Int) by rw [hm]; simp, IntKind.wrap_u64]; omega
      have f2 : IntKind.u64.wrap ((a : Int) + (m : Int)) = (sm : Int) := by rw [IntKind.wrap_u64]; omega
      have f3 : IntKind.u64.wrap (n : Int) = (n : Int) := by rw [IntKind.wrap_u64]; omega
      have f4 : (sm : Int).tmod (n : Int) = (r : Int) := by rw [Int.tmod_eq_emod_of_nonneg (by omega), hr]; simp
      have f5 : IntKind.i64.wrap (r : Int) = (r : Int) := by
        have : r < n := by rw [hr]; exact Nat.mod_lt _ (by omega)
        rw [IntKind.wrap_i64]; omega
      have f6 : ((n : Int) == 0) = false := by simp; omega
      have HR := Lib.hid (show bitK n s i = r by rw [HBK.out, hr, hsm, hm])
      have hil : i < xs.length := by omega
      have q2 := hib.cell i hil
      obtain ⟨v0, hv0⟩ : ∃ v, v = xs[i] := ⟨_, rfl⟩
      rw [← hv0] at q2
      have fz := frozen_of_row wr gl i _ _ hib
      have HN := Lib.hid (show ∀ w', w' = wr.setCell ⟨gl, i, none⟩ (.int .i64 (r : Int)) → ∃ xs : List Value, xs.length = k ∧ xs.take (i + 1) = (encI (bitsK n k s)).take (i + 1) ∧ IB w' gl xs ∧ Fm w' g n k A c bs ∧ Keeps [] w w' from by
        rintro w' rfl
        refine ⟨xs.set i (.int .i64 (r : Int)), by simpa using hxl, ?_, hib.set i _, hfm.keeps (S := [gl]) ((Keeps.refl [gl] wr).setCell (p := ⟨gl, i, none⟩) (.inl (by simp)) _) (by simp; have := HG.out.2.1; omega) ?_, hkp.setCell (.inr HG.out.1) _⟩
        · rw [List.take_add_one, List.take_add_one, List.getElem?_set_self hil, List.take_set_of_le (Nat.le_refl i), hxt]
          congr 1
          simp only [encI, List.getElem?_map]
          rw [List.getElem?_eq_getElem (by simpa using hlt), bitsK_get n k s i hlt, HR.out]
          rfl
        · intro ad e
          have := HG.out.2.2 ad e
          simp; omega)
      clear hm hsm hr hmb hinv hxl hxt hib hfm hkp hil hv0
      go_wp2_with (refine wpList_store_cell rfl 3 (.tmp 45) (.tmp 44) rfl gl i (.int .i64 (r : Int)) v0 rfl rfl rfl q2 fz infoI1 ?_)
      go_roundw
      case rel => exact ⟨i + 1, by omega, by go_num, HN.out _ rfl⟩
      case measure => simp [intOf]; omega
    · have hik : ¬ (i : Int) < (k : Int) := by omega
      have HKI := Lib.hid (show i = k by omega)
      clear hlt
      go_wp2_with fail
      go_ret
      obtain ⟨xs, hxl, hxt, hib, hfm, hkp⟩ := hinv.out
      have e1 : xs = encI (bitsK n k s) := by
        rw [HKI.out, List.take_of_length_le (by omega), List.take_of_length_le (by simp)] at hxt
        exact hxt
      exact ⟨gl, rfl, by rw [← e1]; exact hib, HG.out.1, hkp⟩
end Go.Proofs.YthppbefemfkccaaDoor
namespace Go.Proofs.YthppbefemfkccaaDoor
open Go.RowKit
def errV (n : Int) : Value := if n = 0 then .nilIface else .iface 55 (.int .i64 n)
theorem errV_zero : errV 0 = .nilIface := rfl
theorem errV_other {n : Int} (h : n ≠ 0) : errV n = .iface 55 (.int .i64 n) := if_neg h
end Go.Proofs.YthppbefemfkccaaDoor
