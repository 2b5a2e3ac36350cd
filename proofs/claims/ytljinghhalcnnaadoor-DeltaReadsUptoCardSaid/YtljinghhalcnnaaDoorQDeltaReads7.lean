/- What the program's writer does: contracts. slices.Clone at bytes: a contract. More of what the program's writer does: contracts. Parts as bytes: a contract. -/
import Derived.Test.YtljinghhalcnnaaDoorQDeltaReads6
import Derived.Test.YtljinghhalcnnaaDoorQDeltaReads2
import Derived.Lib.SliceRun
import Derived.LaidEqlPtr
import Derived.Lib.ConvBytes
import Derived.Laws.DeepNot64
import Derived.Deep.DeepCutAuto
namespace Go.Proofs.YtljinghhalcnnaaDoor
open Go.RowKit

/-! ## behind, head -/
theorem behind_any (n : Nat) (w : World) (hn : n < 18446744073709551616) :
    Calls Tryd.prog 48 #[.int .u64 n] w fun e w' => e = .returned (.int .i64 (bh n : Nat)) ∧ w = w' := by
  have hb := Lib.hid (bh_bitLen n hn)
  have h64 : Lib.bitLen n ≤ 64 := Lib.bitLen_le n 64 (by omega) hn
  go_enter Tryd.func48, Tryd.ntmps48
  go_wp2_with fail
  refine (Tryd.bits_Len64 n _ (by omega) (by omega)).mono ?_
  rintro e w' ⟨rfl, rfl⟩
  go_wp2_with fail
  go_ret
  exact ⟨ret_int (by rw [← hb.out]; omega), rfl⟩

theorem head_any (k : Nat) (w : World) (hk : k ≤ 8) :
    Calls Tryd.prog 49 #[.int .i64 k] w fun e w' => e = .returned (.int .u8 ((256 - 2 ^ (8 - k) : Nat) : Int)) ∧ w = w' := by
  have hs : k = 0 ∨ k = 1 ∨ k = 2 ∨ k = 3 ∨ k = 4 ∨ k = 5 ∨ k = 6 ∨ k = 7 ∨ k = 8 := by omega
  rcases hs with rfl | rfl | rfl | rfl | rfl | rfl | rfl | rfl | rfl
  all_goals
    go_enter Tryd.func49, Tryd.ntmps49
    go_wp2_with fail
    go_ret
    exact ⟨ret_int (by decide), rfl⟩

/-! ## The writer -/
/-- A writer: its block, and its bytes in a row of their own. -/
def Wr (w : World) (g : Nat) (A : Option Addr) (c : Nat) (out : List UInt8) : Prop :=
  w.heap[g]? = some (.cells #[.slice A out.length c] 97 (0, 0)) ∧ OwnB 5 w A c out ∧ (∀ a, A = some a → a.block ≠ g)
theorem Wr.lt {w : World} {g : Nat} {A : Option Addr} {c : Nat} {out : List UInt8} (h : Wr w g A c out) : g < w.heap.size := lt_of_block h.1
theorem Wr.keeps {S : List Nat} {w w' : World} {g : Nat} {A : Option Addr} {c : Nat} {out : List UInt8} (h : Wr w g A c out) (hk : Keeps S w w') (hg : g ∉ S) (hA : ∀ a, A = some a → a.block ∉ S) : Wr w' g A c out :=
  ⟨(hk.block g h.lt hg).trans h.1, h.2.1.keeps hk hA, h.2.2⟩
/-- A call that lays bytes behind those of a writer, and hands the writer back. -/
def WrPost (g : Nat) (A : Option Addr) (spec : List UInt8) (w : World) (e : Ending) (w' : World) : Prop :=
  ∃ A' c' out', Hid (out' = spec) ∧ e = .returned (.pointer (some ⟨g, 0, none⟩)) ∧ Wr w' g A' c' out' ∧ Keeps (g :: blk A) w w' ∧ (∀ a, A' = some a → a.block ∈ blk A ∨ w.heap.size ≤ a.block)
theorem WrPost.chain {g : Nat} {A A1 : Option Addr} {s : List UInt8} {w w1 : World} {e : Ending} {w2 : World} (hk : Keeps (g :: blk A) w w1) (hn : ∀ a, A1 = some a → a.block ∈ blk A ∨ w.heap.size ≤ a.block) (h : WrPost g A1 s w1 e w2) : WrPost g A s w e w2 := by
  obtain ⟨A', c', out', ho, he, hw, hk2, hn2⟩ := h
  have sub : ∀ t ∈ blk A1, t ∈ blk A ∨ w.heap.size ≤ t := by
    intro t ht
    obtain ⟨a, e1, e2⟩ := mem_blk.1 ht
    rw [← e2]
    exact hn a e1
  refine ⟨A', c', out', ho, he, hw, hk.trans hk2 (fun t ht => ?_), fun a ha => ?_⟩
  · rcases List.mem_cons.1 ht with rfl | ht
    · exact .inl (by simp)
    · rcases sub t ht with h | h
      · exact .inl (by simp [h])
      · exact .inr h
  · rcases hn2 a ha with h | h
    · exact sub _ h
    · exact .inr (Nat.le_trans hk.size h)

/-- The same between two calls. -/
def WrStep (g : Nat) (A : Option Addr) (spec : List UInt8) (w w' : World) : Prop :=
  ∃ A' c' out', Hid (out' = spec) ∧ Wr w' g A' c' out' ∧ Keeps (g :: blk A) w w' ∧ (∀ a, A' = some a → a.block ∈ blk A ∨ w.heap.size ≤ a.block)
theorem WrPost.step {g : Nat} {A : Option Addr} {s : List UInt8} {w : World} {e : Ending} {w' : World} (h : WrPost g A s w e w') : e = .returned (.pointer (some ⟨g, 0, none⟩)) ∧ WrStep g A s w w' := by
  obtain ⟨A', c', out', ho, he, hw, hk, hn⟩ := h
  exact ⟨he, A', c', out', ho, hw, hk, hn⟩
theorem WrStep.post {g : Nat} {A : Option Addr} {s : List UInt8} {w w' : World} (h : WrStep g A s w w') : WrPost g A s w (.returned (.pointer (some ⟨g, 0, none⟩))) w' := by
  obtain ⟨A', c', out', ho, hw, hk, hn⟩ := h
  exact ⟨A', c', out', ho, rfl, hw, hk, hn⟩
theorem WrStep.refl {w : World} {g : Nat} {A : Option Addr} {c : Nat} {out : List UInt8} (h : Wr w g A c out) : WrStep g A out w w := ⟨A, c, out, rfl, h, Keeps.refl _ _, fun a ha => .inl (mem_blk.2 ⟨a, ha, rfl⟩)⟩
theorem Wr.nin {w : World} {g : Nat} {A : Option Addr} {c : Nat} {out : List UInt8} (h : Wr w g A c out) : ∀ t ∈ g :: blk A, t < w.heap.size := by
  intro t ht
  rcases List.mem_cons.1 ht with rfl | ht
  · exact h.lt
  · obtain ⟨a, e1, e2⟩ := mem_blk.1 ht
    rw [← e2]; exact h.2.1.lt a e1
/-- New blocks ahead of the call. -/
theorem WrStep.before {g : Nat} {A : Option Addr} {s : List UInt8} {w w1 w2 : World} (_h : ∀ t ∈ g :: blk A, t < w.heap.size) (hk : Keeps [] w w1) (h : WrStep g A s w1 w2) : WrStep g A s w w2 := by
  obtain ⟨A', c', out', ho, hw, hk1, hn⟩ := h
  exact ⟨A', c', out', ho, hw, (hk.mono (by simp)).trans hk1 (fun t ht => .inl ht), fun a ha => (hn a ha).imp id (fun h => Nat.le_trans hk.size h)⟩
theorem WrPost.before {g : Nat} {A : Option Addr} {s : List UInt8} {w w1 : World} {e : Ending} {w2 : World} (_h : ∀ t ∈ g :: blk A, t < w.heap.size) (hk : Keeps [] w w1) (h : WrPost g A s w1 e w2) : WrPost g A s w e w2 := by
  obtain ⟨A', c', out', ho, he, hw, hk1, hn⟩ := h
  exact ⟨A', c', out', ho, he, hw, (hk.mono (by simp)).trans hk1 (fun t ht => .inl ht), fun a ha => (hn a ha).imp id (fun h => Nat.le_trans hk.size h)⟩
/-- New blocks beside the writer. -/
theorem WrStep.more {g : Nat} {A : Option Addr} {s : List UInt8} {w w1 w2 : World} (h : WrStep g A s w w1) (hk : Keeps [] w1 w2) : WrStep g A s w w2 := by
  obtain ⟨A', c', out', ho, hw, hk1, hn⟩ := h
  exact ⟨A', c', out', ho, hw.keeps hk (by simp) (fun _ _ => by simp), hk1.trans hk (by simp), hn⟩

theorem raw_any (g : Nat) (A : Option Addr) (c : Nat) (out : List UInt8) (A2 : Option Addr) (l : List UInt8) (c2 : Nat) (w : World) (hw : Wr w g A c out) (hr : RdB w A2 l) (hb : out.length + l.length ≤ 140737488355328) :
    Calls Tryd.prog 50 #[.pointer (some ⟨g, 0, none⟩), .slice A2 l.length c2] w (WrPost g A (out ++ l) w) := by
  have hc : w.cell? ⟨g, 0, none⟩ = some (.slice A out.length c) := by rw [cell_of_row _ _ _ _ _ _ hw.1]; rfl
  have HW := Lib.hid hw
  have HR := Lib.hid hr
  clear hw hr
  go_enter Tryd.func50, Tryd.ntmps50
  go_wp2_with (at_builtin; refine wpList_appendB rfl (.tmp 11) (.tmp 12) 25 5 rfl Tryd.underlying25 infoB A c out rfl HW.out.2.1 A2 c2 l rfl HR.out hb ?_; intro A' c' w1 l1 hl1 ho hk hb1; have hc1 := hk.cell hc (by intro hm; obtain ⟨a1, e1, e2⟩ := mem_blk.1 hm; exact HW.out.2.2 a1 e1 e2); have hf1 := frozen_of_row w1 g 0 _ _ ((hk.block g HW.out.lt (by intro hm; obtain ⟨a1, e1, e2⟩ := mem_blk.1 hm; exact HW.out.2.2 a1 e1 e2)).trans HW.out.1); have HO := Lib.hid ho; have HK := Lib.hid hk; have HB := Lib.hid hb1; clear ho hk hb1)
  go_ret
  have hgA : g ∉ blk A := by
    intro hm
    obtain ⟨a1, e1, e2⟩ := mem_blk.1 hm
    exact HW.out.2.2 a1 e1 e2
  have hne : ∀ a, A' = some a → a.block ≠ g := by
    intro a ha
    rcases HB.out a ha with h | h
    · intro e; rw [e] at h; exact hgA h
    · have := HW.out.lt; omega
  have hblk := (HK.out.block g HW.out.lt hgA).trans HW.out.1
  refine ⟨A', c', l1, hl1, rfl, ⟨?_, ?_, hne⟩, ?_, HB.out⟩
  · rw [heap_setCell_same w1 g 0 _ _ _ hblk]; rfl
  · exact OwnB.keeps HO.out (Keeps.setCell (S := [g]) (p := ⟨g, 0, none⟩) (Keeps.refl [g] w1) (.inl (by simp)) _) (fun a ha => by simpa using hne a ha)
  · exact Keeps.setCell (p := ⟨g, 0, none⟩) (HK.out.mono (fun t ht => .inl (by simp [ht]))) (.inl (by simp)) _

/-- By a nil writer nothing is laid. -/
theorem raw_nil (v : Value) (w : World) : Calls Tryd.prog 50 #[.pointer none, v] w fun e w' => e = .returned (.pointer none) ∧ w = w' := by
  go_enter Tryd.func50, Tryd.ntmps50
  go_wp2_with fail
  go_ret
  exact ⟨rfl, rfl⟩

theorem first_or (k x : Nat) (hk : k < 8) (hx : x < 2 ^ (7 - k)) : bits .or .u8 ((256 - 2 ^ (8 - k) : Nat) : Int) (x : Int) = ((256 - 2 ^ (8 - k) + x : Nat) : Int) := by
  have h2 : (2 : Nat) ^ (7 - k) ≤ 128 := Nat.pow_le_pow_right (by omega) (show 7 - k ≤ 7 by omega)
  have h3 : (2 : Nat) ^ (8 - k) = 2 * 2 ^ (7 - k) := by rw [show 8 - k = (7 - k) + 1 by omega, Nat.pow_succ, Nat.mul_comm]
  have h1 : 0 < 2 ^ (7 - k) := Nat.two_pow_pos _
  rw [u8_or_nat _ _ (by omega) (by omega), nat_join (8 - k) _ _ ?_ (by omega)]
  have hs : k = 0 ∨ k = 1 ∨ k = 2 ∨ k = 3 ∨ k = 4 ∨ k = 5 ∨ k = 6 ∨ k = 7 := by omega
  rcases hs with rfl | rfl | rfl | rfl | rfl | rfl | rfl | rfl <;> decide

theorem shr_byte (n k j : Nat) : ((n : Int) / 2 ^ (8 * (k - 1 - j)) % 256) = ((UInt8.ofNat (n / 2 ^ (8 * (k - 1 - j)) % 256)).toNat : Int) := by
  rw [UInt8.toNat_ofNat', Nat.mod_mod]
  simp
theorem first_byte (n : Nat) (hk : bh n < 8) : bits .or .u8 ((256 - 2 ^ (8 - bh n) : Nat) : Int) ((n : Int) / 2 ^ (8 * bh n) % 256) = ((UInt8.ofNat (256 - 2 ^ (8 - bh n) + n / 2 ^ (8 * bh n))).toNat : Int) := by
  have hx := bh_top n hk
  have h2 : (2 : Nat) ^ (7 - bh n) ≤ 128 := Nat.pow_le_pow_right (by omega) (show 7 - bh n ≤ 7 by omega)
  have h3 : (2 : Nat) ^ (8 - bh n) = 2 * 2 ^ (7 - bh n) := by rw [show 8 - bh n = (7 - bh n) + 1 by omega, Nat.pow_succ, Nat.mul_comm]
  have e : ((n : Int) / 2 ^ (8 * bh n) % 256) = ((n / 2 ^ (8 * bh n) : Nat) : Int) := by
    have : ((n / 2 ^ (8 * bh n) : Nat) : Int) = (n : Int) / 2 ^ (8 * bh n) := by simp
    rw [← this]
    generalize n / 2 ^ (8 * bh n) = x at hx
    omega
  rw [e, first_or _ _ hk hx, UInt8.toNat_ofNat']
  omega

set_option maxHeartbeats 1000000 in
/-- What Uint does behind its first byte. -/
theorem uint_any (n : Nat) (g : Nat) (A : Option Addr) (c : Nat) (out : List UInt8) (w : World) (hn : n < 18446744073709551616) (hw : Wr w g A c out) (hb : out.length + 18 ≤ 140737488355328) :
    Calls Tryd.prog 32 #[.pointer (some ⟨g, 0, none⟩), .int .u64 n] w (WrPost g A (out ++ uintB n) w) := by
  have HW := Lib.hid hw
  have hk8 := bh_le n
  obtain ⟨f, hf⟩ : ∃ f : UInt8, f = UInt8.ofNat (256 - 2 ^ (8 - bh n) + n / 2 ^ (8 * bh n)) := ⟨_, rfl⟩
  clear hw
  by_cases hk : bh n < 8
  · have hor := first_byte n hk
    rw [← hf] at hor
    have HF := Lib.hid hf
    clear hf
    go_enter Tryd.func32, Tryd.ntmps32
    go_wp2_with fail
    refine (behind_any n _ hn).mono ?_
    rintro e w' ⟨rfl, rfl⟩
    go_wp2_with fail
    refine (head_any (bh n) _ hk8).mono ?_
    rintro e w' ⟨rfl, rfl⟩
    go_wp2_with fail
    refine (raw_any g A c out (some ⟨w.heap.size, 0, none⟩) [f] 1 _ (HW.out.keeps ((Keeps.refl [] w).alloc _) (by simp) (fun _ _ => by simp)) (RdB.lit w [f] 5 (0, 0)) (by simp; omega)).mono ?_
    intro e w1 hp
    obtain ⟨rfl, hst⟩ := hp.step
    have HS := Lib.hid (WrStep.before (HW.out.nin) ((Keeps.refl [] w).alloc _) hst)
    clear hp hst hor
    go_wp2_with fail
    go_loopw [26] (fun i wr => ∃ j : Nat, j ≤ bh n ∧ i = .int .i64 j ∧ Hid (WrStep g A (out ++ f :: (be (bh n) n).take j) w wr)) (fun i _ => bh n - (intOf i).toNat)
    case atStart => exact ⟨0, Nat.zero_le _, rfl, by show WrStep _ _ _ _ _; rw [List.take_zero]; exact HS.out⟩
    case round =>
      obtain ⟨j, hj, rfl, hst⟩ := hrel
      by_cases hlt : j < bh n
      · have hsb := shr_byte n (bh n) j
        obtain ⟨b, hbb⟩ : ∃ b : UInt8, b = UInt8.ofNat (n / 2 ^ (8 * (bh n - 1 - j)) % 256) := ⟨_, rfl⟩
        rw [← hbb] at hsb
        have HBB := Lib.hid hbb
        clear hbb
        obtain ⟨A1, c1, out1, ho1, hw1, hk1, hn1⟩ := hst.out
        have HW1 := Lib.hid hw1
        have hlen : out1.length ≤ out.length + 9 := by rw [ho1.out]; simp; omega
        clear hw1
        go_wp2_with fail
        refine (raw_any g A1 c1 out1 (some ⟨wr.heap.size, 0, none⟩) [b] 1 _ (HW1.out.keeps ((Keeps.refl [] wr).alloc _) (by simp) (fun _ _ => by simp)) (RdB.lit wr [b] 5 (0, 0)) (by simp; omega)).mono ?_
        intro e w2 hp
        obtain ⟨rfl, hst2⟩ := (WrPost.chain hk1 hn1 (WrPost.before HW1.out.nin ((Keeps.refl [] wr).alloc _) hp)).step
        have HS2 := Lib.hid hst2
        clear hp hst2 hsb hlen hk1 hn1
        go_wp2_with fail
        go_roundw
        case rel =>
          refine ⟨j + 1, by omega, by go_num, ?_⟩
          show WrStep _ _ _ _ _
          have e : out ++ f :: (be (bh n) n).take (j + 1) = out1 ++ [b] := by rw [ho1.out, be_take _ _ _ hlt, HBB.out]; simp
          rw [e]; exact HS2.out
        case measure => simp [intOf]; omega
      · have hjk : j = bh n := by omega
        have HJ := Lib.hid hjk
        clear hjk
        go_wp2_with fail
        go_ret
        have := hst.out
        rw [HJ.out, List.take_of_length_le (by simp), HF.out] at this
        exact this.post
  · have hk' : bh n = 8 := by omega
    have hor : ((256 - 2 ^ (8 - bh n) : Nat) : Int) = (f.toNat : Int) := by rw [hf, bh_top8 n hn hk', hk']; decide
    have HF := Lib.hid hf
    clear hf
    have HK := Lib.hid hk'
    clear hk'
    go_enter Tryd.func32, Tryd.ntmps32
    go_wp2_with fail
    refine (behind_any n _ hn).mono ?_
    rintro e w' ⟨rfl, rfl⟩
    go_wp2_with fail
    refine (head_any (bh n) _ hk8).mono ?_
    rintro e w' ⟨rfl, rfl⟩
    go_wp2_with fail
    refine (raw_any g A c out (some ⟨w.heap.size, 0, none⟩) [f] 1 _ (HW.out.keeps ((Keeps.refl [] w).alloc _) (by simp) (fun _ _ => by simp)) (RdB.lit w [f] 5 (0, 0)) (by simp; omega)).mono ?_
    intro e w1 hp
    obtain ⟨rfl, hst⟩ := hp.step
    have HS := Lib.hid (WrStep.before (HW.out.nin) ((Keeps.refl [] w).alloc _) hst)
    clear hp hst hor
    go_wp2_with fail
    go_loopw [26] (fun i wr => ∃ j : Nat, j ≤ bh n ∧ i = .int .i64 j ∧ Hid (WrStep g A (out ++ f :: (be (bh n) n).take j) w wr)) (fun i _ => bh n - (intOf i).toNat)
    case atStart => exact ⟨0, Nat.zero_le _, rfl, by show WrStep _ _ _ _ _; rw [List.take_zero]; exact HS.out⟩
    case round =>
      obtain ⟨j, hj, rfl, hst⟩ := hrel
      by_cases hlt : j < bh n
      · have hsb := shr_byte n (bh n) j
        obtain ⟨b, hbb⟩ : ∃ b : UInt8, b = UInt8.ofNat (n / 2 ^ (8 * (bh n - 1 - j)) % 256) := ⟨_, rfl⟩
        rw [← hbb] at hsb
        have HBB := Lib.hid hbb
        clear hbb
        obtain ⟨A1, c1, out1, ho1, hw1, hk1, hn1⟩ := hst.out
        have HW1 := Lib.hid hw1
        have hlen : out1.length ≤ out.length + 9 := by rw [ho1.out]; simp; omega
        clear hw1
        go_wp2_with fail
        refine (raw_any g A1 c1 out1 (some ⟨wr.heap.size, 0, none⟩) [b] 1 _ (HW1.out.keeps ((Keeps.refl [] wr).alloc _) (by simp) (fun _ _ => by simp)) (RdB.lit wr [b] 5 (0, 0)) (by simp; omega)).mono ?_
        intro e w2 hp
        obtain ⟨rfl, hst2⟩ := (WrPost.chain hk1 hn1 (WrPost.before HW1.out.nin ((Keeps.refl [] wr).alloc _) hp)).step
        have HS2 := Lib.hid hst2
        clear hp hst2 hsb hlen hk1 hn1
        go_wp2_with fail
        go_roundw
        case rel =>
          refine ⟨j + 1, by omega, by go_num, ?_⟩
          show WrStep _ _ _ _ _
          have e : out ++ f :: (be (bh n) n).take (j + 1) = out1 ++ [b] := by rw [ho1.out, be_take _ _ _ hlt, HBB.out]; simp
          rw [e]; exact HS2.out
        case measure => simp [intOf]; omega
      · have hjk : j = bh n := by omega
        have HJ := Lib.hid hjk
        clear hjk
        go_wp2_with fail
        go_ret
        have := hst.out
        rw [HJ.out, List.take_of_length_le (by simp), HF.out] at this
        exact this.post
end Go.Proofs.YtljinghhalcnnaaDoor
namespace Go.Proofs.YtljinghhalcnnaaDoor
open Go.RowKit

theorem NewB.before {E : TypeId} {s : List UInt8} {w w1 : World} {e : Ending} {w' : World} (hk : Keeps [] w w1) (h : NewB E s w1 e w') : NewB E s w e w' := by
  obtain ⟨A, c, l, hl, he, ho, hn, hk1⟩ := h
  exact ⟨A, c, l, hl, he, ho, fun a ha => Nat.le_trans hk.size (hn a ha), hk.trans hk1 (by simp)⟩
theorem NewB.spec {E : TypeId} {s s' : List UInt8} {w : World} {e : Ending} {w' : World} (h : NewB E s w e w') (hs : s = s') : NewB E s' w e w' := hs ▸ h
/-- The same between two calls. -/
def NewStep (E : TypeId) (s : List UInt8) (w w' : World) (A : Option Addr) (c : Nat) (l : List UInt8) : Prop := Hid (l = s) ∧ OwnB E w' A c l ∧ (∀ a, A = some a → w.heap.size ≤ a.block) ∧ Keeps [] w w'
theorem NewB.step {E : TypeId} {s : List UInt8} {w : World} {e : Ending} {w' : World} (h : NewB E s w e w') : ∃ A c l, e = .returned (.slice A l.length c) ∧ NewStep E s w w' A c l := by
  obtain ⟨A, c, l, hl, he, ho, hn, hk1⟩ := h
  exact ⟨A, c, l, he, hl, ho, hn, hk1⟩
theorem NewStep.post {E : TypeId} {s : List UInt8} {w w' : World} {A : Option Addr} {c : Nat} {l : List UInt8} (h : NewStep E s w w' A c l) : NewB E s w (.returned (.slice A l.length c)) w' := ⟨A, c, l, h.1, rfl, h.2.1, h.2.2.1, h.2.2.2⟩

theorem own_empty (w : World) : OwnB 5 (w.alloc (.cells #[] 5)) (some ⟨w.heap.size, 0, none⟩) 0 [] := by
  refine ⟨by simp [encB], .inr ⟨w.heap.size, 0, #[], rfl, Nat.zero_le _, heap_alloc_new w _, Nat.le_refl _, by unfold maxLen; omega, by simp, by simp [encB]⟩⟩

theorem clone_any (A : Option Addr) (l : List UInt8) (c : Nat) (w : World) (hl : l.length ≤ 140737488355328) (hr : RdB w A l) :
    Calls Tryd.prog 44 #[.slice A l.length c] w (NewB 5 l w) := by
  have HR := Lib.hid hr
  clear hr
  rcases A with _ | ad
  · have h0 : l = [] := by
      rcases Nat.eq_zero_or_pos l.length with h | h
      · exact List.eq_nil_of_length_eq_zero h
      · obtain ⟨ad, e, _⟩ := HR.out.at_ (k := 0) h
        cases e
    subst h0
    have hn := Lib.run_eql_slice_nil (P := Tryd.prog) w 25 5 none 0 c 0 0 Tryd.underlying25
    go_enter Tryd.func44, Tryd.ntmps44
    go_wp2_with fail
    go_ret
    exact ⟨none, 0, [], rfl, rfl, OwnB.nil _ _, by simp, Keeps.refl [] w⟩
  · have hn := Lib.run_eql_slice_nil (P := Tryd.prog) w 25 5 (some ad) l.length c 0 0 Tryd.underlying25
    go_enter Tryd.func44, Tryd.ntmps44
    go_wp2_with (at_builtin; refine wpList_appendB rfl (.tmp 5) (.tmp 6) 25 5 rfl Tryd.underlying25 infoB (some ⟨w.heap.size, 0, none⟩) 0 [] rfl (own_empty w) (some ad) c l rfl (HR.out.alloc _) (by simp; omega) ?_; intro A' c' w' l' hl' ho hk hb)
    go_ret
    refine ⟨A', c', l', hl', rfl, ho, fun a ha => ?_, ((Keeps.refl [] w).alloc _).trans hk (by simp [blk])⟩
    rcases hb a ha with h | h
    · simp [blk] at h; omega
    · simp at h; omega
end Go.Proofs.YtljinghhalcnnaaDoor
namespace Go.Proofs.YtljinghhalcnnaaDoor
open Go.RowKit

theorem WrPost.spec {g : Nat} {A : Option Addr} {s s' : List UInt8} {w : World} {e : Ending} {w' : World} (h : WrPost g A s w e w') (hs : s = s') : WrPost g A s' w e w' := hs ▸ h

/-- A new writer. -/
theorem new_any (w : World) : Calls Tryd.prog 31 #[] w fun e w' => e = .returned (.pointer (some ⟨w.heap.size, 0, none⟩)) ∧ Wr w' w.heap.size none 0 [] ∧ Keeps [] w w' := by
  go_enter Tryd.func31, Tryd.ntmps31
  go_wp2_with fail
  go_ret
  exact ⟨rfl, ⟨heap_alloc_new _ _, OwnB.nil _ _, by simp⟩, (Keeps.refl [] w).alloc _⟩

theorem one_any (b : UInt8) (v : Int) (hv : v = (b.toNat : Int)) (g : Nat) (A : Option Addr) (c : Nat) (out : List UInt8) (w : World) (hw : Wr w g A c out) (hb : out.length + 1 ≤ 140737488355328) :
    Calls Tryd.prog 50 #[.pointer (some ⟨g, 0, none⟩), .slice (some ⟨w.heap.size, 0, none⟩) 1 1] (w.alloc (.cells #[.int .u8 v] 5 (0, 0))) (WrPost g A (out ++ [b]) w) := by
  subst hv
  refine (raw_any g A c out (some ⟨w.heap.size, 0, none⟩) [b] 1 _ (hw.keeps ((Keeps.refl [] w).alloc _) (by simp) (fun _ _ => by simp)) (RdB.lit w [b] 5 (0, 0)) (by simp; omega)).mono fun e w' h => ?_
  exact WrPost.before hw.nin ((Keeps.refl [] w).alloc _) h

theorem bool_any (b : Bool) (g : Nat) (A : Option Addr) (c : Nat) (out : List UInt8) (w : World) (hw : Wr w g A c out) (hb : out.length + 1 ≤ 140737488355328) :
    Calls Tryd.prog 33 #[.pointer (some ⟨g, 0, none⟩), .bool b] w (WrPost g A (out ++ [if b then 1 else 0]) w) := by
  have HW := Lib.hid hw
  clear hw
  cases b
  · go_enter Tryd.func33, Tryd.ntmps33
    go_wp2_with fail
    refine (one_any 0 0 rfl g A c out w HW.out hb).mono ?_
    intro e w1 hp
    obtain ⟨rfl, hst⟩ := hp.step
    go_wp2_with fail
    go_ret
    exact hst.post
  · go_enter Tryd.func33, Tryd.ntmps33
    go_wp2_with fail
    refine (one_any 1 1 rfl g A c out w HW.out hb).mono ?_
    intro e w1 hp
    obtain ⟨rfl, hst⟩ := hp.step
    go_wp2_with fail
    go_ret
    exact hst.post

/-- '^n' at any int. -/
theorem i64_not_any (n : Int) (h1 : -9223372036854775808 ≤ n) (h2 : n ≤ 9223372036854775807) : bits .xor .i64 (-1) n = -(n + 1) := by
  show IntKind.i64.wrap ((BitVec.ofInt 64 (-1) ^^^ BitVec.ofInt 64 n).toNat : Int) = _
  have e1 : BitVec.ofInt 64 (-1) = BitVec.allOnes 64 := by decide
  rw [e1, BitVec.allOnes_xor, BitVec.toNat_not, BitVec.toNat_ofInt]
  simp [IntKind.wrap, IntKind.bits, IntKind.signed]
  omega
/-- An int as bytes. -/
def intB (n : Int) : List UInt8 := if n < 0 then 1 :: uintB (-(n + 1)).toNat else 0 :: uintB n.toNat
theorem length_intB_le (n : Int) : (intB n).length ≤ 10 := by
  unfold intB
  split
  · have := length_uintB_le (-(n + 1)).toNat; simp at this ⊢; omega
  · have := length_uintB_le n.toNat; simp at this ⊢; omega
/-! ## Texts and bytes -/
def lenB (l : List UInt8) : List UInt8 := uintB l.length ++ l
theorem strB_size (l : List UInt8) : (strB l).size = l.length := rfl
theorem rd_conv (w : World) (e : TypeId) (l : List UInt8) : RdB (Lib.bytesWorld w e (strB l)) (some ⟨w.heap.size, 0, none⟩) l := by
  refine ⟨by simp, fun _ => ⟨_, rfl, fun j u hu => ?_⟩⟩
  have hj : j < l.length := by
    have := (List.getElem?_eq_some_iff.1 hu).1
    simpa using this
  rw [add_new, Nat.zero_add, Lib.bytesWorld_cell w e (strB l) j (by rw [strB_size]; exact hj)]
  rw [List.getElem?_eq_getElem (by simpa using hj), encB_get l j hj] at hu
  rw [← hu]
  simp [strB, List.getD_eq_getElem?_getD, List.getElem?_eq_getElem hj]
theorem keeps_conv (w : World) (e : TypeId) (s : ByteArray) : Keeps [] w (Lib.bytesWorld w e s) :=
  ⟨rfl, rfl, rfl, by rw [Lib.bytesWorld_size]; omega, fun k hk _ => Lib.bytesWorld_at_old w e s k hk⟩

theorem bytes_any (g : Nat) (A : Option Addr) (c : Nat) (out : List UInt8) (A2 : Option Addr) (l : List UInt8) (c2 : Nat) (w : World) (hw : Wr w g A c out) (hr : RdB w A2 l) (hA : ∀ a, A2 = some a → 0 < l.length → a.block ≠ g ∧ a.block ∉ blk A) (hb : out.length + l.length + 30 ≤ 140737488355328) :
    Calls Tryd.prog 34 #[.pointer (some ⟨g, 0, none⟩), .slice A2 l.length c2] w (WrPost g A (out ++ lenB l) w) := by
  have HW := Lib.hid hw
  have HR := Lib.hid hr
  have HA := Lib.hid hA
  clear hw hr hA
  go_enter Tryd.func34, Tryd.ntmps34
  go_wp2_with fail
  refine (uint_any l.length g A c out w (by omega) HW.out (by omega)).mono ?_
  intro e w1 hp
  obtain ⟨rfl, hst⟩ := hp.step
  obtain ⟨A1, c1, out1, ho1, hw1, hk1, hn1⟩ := hst
  have hl1 : out1.length ≤ out.length + 9 := by rw [ho1.out]; have := length_uintB_le l.length; simp at this ⊢; omega
  have HW1 := Lib.hid hw1
  have HC := Lib.hid (And.intro hk1 hn1)
  have HR1 := Lib.hid (HR.out.keeps hk1 (fun a e hl => by have := HA.out a e hl; simp [this]))
  clear hw1 hk1 hn1 hp
  go_wp2_with fail
  refine (raw_any g A1 c1 out1 A2 l c2 w1 HW1.out HR1.out (by omega)).mono ?_
  intro e w2 hp
  obtain ⟨rfl, hst⟩ := ((WrPost.chain HC.out.1 HC.out.2 hp).spec (show _ = out ++ lenB l by rw [ho1.out]; simp [lenB])).step
  clear hp
  go_wp2_with fail
  go_ret
  exact hst.post

theorem done_any (g : Nat) (A : Option Addr) (c : Nat) (out : List UInt8) (w : World) (hw : Wr w g A c out) (hb : out.length ≤ 140737488355328) :
    Calls Tryd.prog 35 #[.pointer (some ⟨g, 0, none⟩)] w (NewB 5 out w) := by
  have hc : w.cell? ⟨g, 0, none⟩ = some (.slice A out.length c) := by rw [cell_of_row _ _ _ _ _ _ hw.1]; rfl
  have HW := Lib.hid hw
  clear hw
  go_enter Tryd.func35, Tryd.ntmps35
  go_wp2_with fail
  refine (clone_any A out c w hb HW.out.2.1.rd).mono ?_
  rintro e w' ⟨A1, c1, l1, hl1, rfl, ho1, hn1, hk1⟩
  go_wp2_with fail
  go_ret
  exact ⟨A1, c1, l1, hl1, rfl, ho1, hn1, hk1⟩

/-! ## By a nil writer -/
theorem done_nil (w : World) : Calls Tryd.prog 35 #[.pointer none] w fun e w' => e = .returned (.slice none 0 0) ∧ w = w' := by
  go_enter Tryd.func35, Tryd.ntmps35
  go_wp2_with fail
  go_ret
  exact ⟨rfl, rfl⟩
end Go.Proofs.YtljinghhalcnnaaDoor
namespace Go.Proofs.YtljinghhalcnnaaDoor
open Go.RowKit

def uN (z : Int) : Nat := (IntKind.u64.wrap z).toNat
theorem uN_is (z : Int) : IntKind.u64.wrap z = (uN z : Int) ∧ uN z < 18446744073709551616 := by
  unfold uN
  have h1 := IntKind.wrap_u64 z
  rw [h1]
  omega
def encP (p : Pa) : List UInt8 := [if p.cp then 1 else 0] ++ if p.cp then uintB (uN p.fr) ++ uintB (uN p.ln) else lenB p.b
def encE10 (ps : List Pa) : List UInt8 := uintB ps.length ++ ps.flatMap encP
/-- The writer at work, beside a part's copy. -/
structure WrI (w wr : World) (g : Nat) (A : Option Addr) (c : Nat) (out : List UInt8) : Prop where
  wr_ : Wr wr g A c out
  kp : Keeps [] w wr
  g0 : w.heap.size ≤ g
  a0 : ∀ a, A = some a → w.heap.size ≤ a.block
theorem WrI.keeps0 {w wr wr' : World} {g : Nat} {A : Option Addr} {c : Nat} {out : List UInt8} (h : WrI w wr g A c out) (hk : Keeps [] wr wr') : WrI w wr' g A c out :=
  ⟨⟨(hk.block g (lt_of_block h.wr_.1) (by simp)).trans h.wr_.1, h.wr_.2.1.keeps0 hk, h.wr_.2.2⟩, h.kp.trans hk (by simp), h.g0, h.a0⟩
theorem WrI.post {w wr w' : World} {g : Nat} {A : Option Addr} {c : Nat} {out spec : List UInt8} {r : Ending} (h : WrI w wr g A c out) (hp : WrPost g A spec wr r w') : ∃ A' c' out', r = .returned (.pointer (some ⟨g, 0, none⟩)) ∧ out' = spec ∧ WrI w w' g A' c' out' ∧ Keeps (g :: blk A) wr w' ∧ ∀ a, A' = some a → a.block ∈ blk A ∨ wr.heap.size ≤ a.block := by
  obtain ⟨A', c', out', ho, he, hw, hk, hf⟩ := hp
  have s1 := h.kp.size
  refine ⟨A', c', out', he, ho.out, ⟨hw, h.kp.trans hk (fun t ht => .inr ?_), h.g0, fun a ha => ?_⟩, hk, hf⟩
  · rcases List.mem_cons.1 ht with rfl | ht
    · exact h.g0
    · obtain ⟨b, e1, e2⟩ := mem_blk.1 ht
      rw [← e2]; exact h.a0 b e1
  · rcases hf a ha with h1 | h1
    · obtain ⟨b, e1, e2⟩ := mem_blk.1 h1
      rw [← e2]; exact h.a0 b e1
    · omega
structure EnX (w wr : World) (g : Nat) (A : Option Addr) (c : Nat) (out : List UInt8) (gx : Nat) (t : Pt) : Prop where
  wi : WrI w wr g A c out
  pc : wr.heap[gx]? = some (.cells t.cells.toArray 50 (0, 0))
  gx0 : gx ≠ g ∧ gx ∉ blk A
theorem EnX.post {w wr w' : World} {g : Nat} {A : Option Addr} {c : Nat} {out spec : List UInt8} {gx : Nat} {t : Pt} {r : Ending} (h : EnX w wr g A c out gx t) (hp : WrPost g A spec wr r w') : ∃ A' c' out', r = .returned (.pointer (some ⟨g, 0, none⟩)) ∧ out' = spec ∧ EnX w w' g A' c' out' gx t := by
  obtain ⟨A', c', out', h1, h2, h3, h4, h5⟩ := h.wi.post hp
  have hlt := lt_of_block h.pc
  refine ⟨A', c', out', h1, h2, h3, (h4.block gx hlt (fun hm => ?_)).trans h.pc, h.gx0.1, fun hm => ?_⟩
  · rcases List.mem_cons.1 hm with h6 | h6
    · exact h.gx0.1 h6
    · exact h.gx0.2 h6
  · obtain ⟨b, e1, e2⟩ := mem_blk.1 hm
    rcases h5 b e1 with h6 | h6
    · rw [e2] at h6; exact h.gx0.2 h6
    · omega
theorem EnX.cells {w wr : World} {g : Nat} {A : Option Addr} {c : Nat} {out : List UInt8} {gx : Nat} {t : Pt} (h : EnX w wr g A c out gx t) : wr.cell? ⟨gx, 0, none⟩ = some (.bool t.p.cp) ∧ wr.cell? ⟨gx, 1, none⟩ = some (.int .i64 t.p.fr) ∧ wr.cell? ⟨gx, 2, none⟩ = some (.int .i64 t.p.ln) ∧ wr.cell? ⟨gx, 3, none⟩ = some (.slice t.A t.p.b.length t.c) :=
  ⟨by rw [cell_of_row _ _ _ _ _ _ h.pc]; rfl, by rw [cell_of_row _ _ _ _ _ _ h.pc]; rfl, by rw [cell_of_row _ _ _ _ _ _ h.pc]; rfl, by rw [cell_of_row _ _ _ _ _ _ h.pc]; rfl⟩
theorem pt_cells {w : World} {A : Option Addr} {n : Nat} {ts : List Pt} (h : Rd w A n 4 (encPt ts)) {i : Nat} (hi : i < ts.length) : ∃ g o, A = some ⟨g, o, none⟩ ∧ w.cell? ⟨g, o + i * 4, none⟩ = some (.bool ts[i].p.cp) ∧ w.cell? ⟨g, o + i * 4 + 1, none⟩ = some (.int .i64 ts[i].p.fr) ∧ w.cell? ⟨g, o + i * 4 + 2, none⟩ = some (.int .i64 ts[i].p.ln) ∧ w.cell? ⟨g, o + i * 4 + 3, none⟩ = some (.slice ts[i].A ts[i].p.b.length ts[i].c) := by
  obtain ⟨g, o, e, hc⟩ := Rd.form h (by rw [encPt_len]; omega)
  have h1 : encPt ts = encPt (ts.take i) ++ (ts[i].cells ++ encPt (ts.drop (i + 1))) := by
    conv => lhs; rw [← List.take_append_drop i ts, List.drop_eq_getElem_cons hi, encPt_append, encPt_cons]
  have hl : (encPt (ts.take i)).length = i * 4 := by rw [encPt_len, List.length_take]; congr 1; omega
  have h2 : ∀ k (hk : k < 4), (encPt ts)[i * 4 + k]? = (ts[i].cells)[k]? := fun k hk => by
    rw [h1, List.getElem?_append_right (by omega), hl, Nat.add_sub_cancel_left, List.getElem?_append_left (by show k < 4; omega)]
  refine ⟨g, o, e, ?_, ?_, ?_, ?_⟩
  · exact hc (i * 4) _ (by rw [show i * 4 = i * 4 + 0 from rfl, h2 0 (by omega)]; rfl)
  · rw [Nat.add_assoc]; exact hc (i * 4 + 1) _ (by rw [h2 1 (by omega)]; rfl)
  · rw [Nat.add_assoc]; exact hc (i * 4 + 2) _ (by rw [h2 2 (by omega)]; rfl)
  · rw [Nat.add_assoc]; exact hc (i * 4 + 3) _ (by rw [h2 3 (by omega)]; rfl)
theorem encE_take (ps : List Pa) {i : Nat} (hi : i < ps.length) : uintB ps.length ++ (ps.take (i + 1)).flatMap encP = (uintB ps.length ++ (ps.take i).flatMap encP) ++ encP ps[i] := by
  rw [List.take_succ_eq_append_getElem hi, List.flatMap_append]
  simp
theorem encE_le (ps : List Pa) (i : Nat) : (uintB ps.length ++ (ps.take i).flatMap encP).length ≤ (encE10 ps).length := by
  unfold encE10
  conv => rhs; rw [← List.take_append_drop i ps, List.flatMap_append]
  simp only [List.length_append, List.take_append_drop]
  omega
end Go.Proofs.YtljinghhalcnnaaDoor
