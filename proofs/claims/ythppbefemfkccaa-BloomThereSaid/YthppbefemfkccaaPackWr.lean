/- More of what the program's writer does: contracts. -/
import Derived.Test.YthppbefemfkccaaPackW
import Derived.Test.YthppbefemfkccaaClone
import Derived.Test.YthppbefemfkccaaRegion
import Derived.Lib.ConvBytes
import Derived.Laws.DeepNot64
namespace Go.Proofs.Ythppbefemfkccaa
open Go.RowKit

theorem WrPost.spec {g : Nat} {A : Option Addr} {s s' : List UInt8} {w : World} {e : Ending} {w' : World} (h : WrPost g A s w e w') (hs : s = s') : WrPost g A s' w e w' := hs ▸ h

/-- A new writer. -/
theorem new_any (w : World) : Calls Try.prog 13 #[] w fun e w' => e = .returned (.pointer (some ⟨w.heap.size, 0, none⟩)) ∧ Wr w' w.heap.size none 0 [] ∧ Keeps [] w w' := by
  go_enter Try.func13, Try.ntmps13
  go_wp2_with fail
  go_ret
  exact ⟨rfl, ⟨heap_alloc_new _ _, OwnB.nil _ _, by simp⟩, (Keeps.refl [] w).alloc _⟩

theorem one_any (b : UInt8) (v : Int) (hv : v = (b.toNat : Int)) (g : Nat) (A : Option Addr) (c : Nat) (out : List UInt8) (w : World) (hw : Wr w g A c out) (hb : out.length + 1 ≤ 140737488355328) :
    Calls Try.prog 25 #[.pointer (some ⟨g, 0, none⟩), .slice (some ⟨w.heap.size, 0, none⟩) 1 1] (w.alloc (.cells #[.int .u8 v] 5 (0, 0))) (WrPost g A (out ++ [b]) w) := by
  subst hv
  refine (raw_any g A c out (some ⟨w.heap.size, 0, none⟩) [b] 1 _ (hw.keeps ((Keeps.refl [] w).alloc _) (by simp) (fun _ _ => by simp)) (RdB.lit w [b] 5 (0, 0)) (by simp; omega)).mono fun e w' h => ?_
  exact WrPost.before hw.nin ((Keeps.refl [] w).alloc _) h

/-- '^n' at any int. -/
theorem i64_not_any (n : Int) (h1 : -9223372036854775808 ≤ n) (h2 : n ≤ 9223372036854775807) : bits .xor .i64 (-1) n = -(n + 1) := by
  show IntKind.i64.wrap ((BitVec.ofInt 64 (-1) ^^^ BitVec.ofInt 64 n).toNat : Int) = _
  have e1 : BitVec.ofInt 64 (-1) = BitVec.allOnes 64 := by decide
  rw [e1, BitVec.allOnes_xor, BitVec.toNat_not, BitVec.toNat_ofInt]
  simp [IntKind.wrap, IntKind.bits, IntKind.signed]
  omega
/-- An int as bytes. -/
def intB (n : Int) : List UInt8 := if n < 0 then 1 :: uintB (-(n + 1)).toNat else 0 :: uintB n.toNat
theorem length_intB_le (n : Int) : (intB n).length ≤ 10 := by
  unfold intB
  split
  · have := length_uintB_le (-(n + 1)).toNat; simp at this ⊢; omega
  · have := length_uintB_le n.toNat; simp at this ⊢; omega
/-! ## Texts and bytes -/
def lenB (l : List UInt8) : List UInt8 := uintB l.length ++ l
theorem strB_size (l : List UInt8) : (strB l).size = l.length := rfl
theorem rd_conv (w : World) (e : TypeId) (l : List UInt8) : RdB (Lib.bytesWorld w e (strB l)) (some ⟨w.heap.size, 0, none⟩) l := by
  refine ⟨by simp, fun _ => ⟨_, rfl, fun j u hu => ?_⟩⟩
  have hj : j < l.length := by
    have := (List.getElem?_eq_some_iff.1 hu).1
    simpa using this
  rw [add_new, Nat.zero_add, Lib.bytesWorld_cell w e (strB l) j (by rw [strB_size]; exact hj)]
  rw [List.getElem?_eq_getElem (by simpa using hj), encB_get l j hj] at hu
  rw [← hu]
  simp [strB, List.getD_eq_getElem?_getD, List.getElem?_eq_getElem hj]
theorem keeps_conv (w : World) (e : TypeId) (s : ByteArray) : Keeps [] w (Lib.bytesWorld w e s) :=
  ⟨rfl, rfl, rfl, by rw [Lib.bytesWorld_size]; omega, fun k hk _ => Lib.bytesWorld_at_old w e s k hk⟩

theorem bytes_any (g : Nat) (A : Option Addr) (c : Nat) (out : List UInt8) (A2 : Option Addr) (l : List UInt8) (c2 : Nat) (w : World) (hw : Wr w g A c out) (hr : RdB w A2 l) (hA : ∀ a, A2 = some a → 0 < l.length → a.block ≠ g ∧ a.block ∉ blk A) (hb : out.length + l.length + 30 ≤ 140737488355328) :
    Calls Try.prog 15 #[.pointer (some ⟨g, 0, none⟩), .slice A2 l.length c2] w (WrPost g A (out ++ lenB l) w) := by
  have HW := Lib.hid hw
  have HR := Lib.hid hr
  have HA := Lib.hid hA
  clear hw hr hA
  go_enter Try.func15, Try.ntmps15
  go_wp2_with fail
  refine (uint_any l.length g A c out w (by omega) HW.out (by omega)).mono ?_
  intro e w1 hp
  obtain ⟨rfl, hst⟩ := hp.step
  obtain ⟨A1, c1, out1, ho1, hw1, hk1, hn1⟩ := hst
  have hl1 : out1.length ≤ out.length + 9 := by rw [ho1.out]; have := length_uintB_le l.length; simp at this ⊢; omega
  have HW1 := Lib.hid hw1
  have HC := Lib.hid (And.intro hk1 hn1)
  have HR1 := Lib.hid (HR.out.keeps hk1 (fun a e hl => by have := HA.out a e hl; simp [this]))
  clear hw1 hk1 hn1 hp
  go_wp2_with fail
  refine (raw_any g A1 c1 out1 A2 l c2 w1 HW1.out HR1.out (by omega)).mono ?_
  intro e w2 hp
  obtain ⟨rfl, hst⟩ := ((WrPost.chain HC.out.1 HC.out.2 hp).spec (show _ = out ++ lenB l by rw [ho1.out]; simp [lenB])).step
  clear hp
  go_wp2_with fail
  go_ret
  exact hst.post

theorem done_any (g : Nat) (A : Option Addr) (c : Nat) (out : List UInt8) (w : World) (hw : Wr w g A c out) (hb : out.length ≤ 140737488355328) :
    Calls Try.prog 16 #[.pointer (some ⟨g, 0, none⟩)] w (NewB 5 out w) := by
  have hc : w.cell? ⟨g, 0, none⟩ = some (.slice A out.length c) := by rw [cell_of_row _ _ _ _ _ _ hw.1]; rfl
  have HW := Lib.hid hw
  clear hw
  go_enter Try.func16, Try.ntmps16
  go_wp2_with fail
  refine (clone_any A out c w hb HW.out.2.1.rd).mono ?_
  rintro e w' ⟨A1, c1, l1, hl1, rfl, ho1, hn1, hk1⟩
  go_wp2_with fail
  go_ret
  exact ⟨A1, c1, l1, hl1, rfl, ho1, hn1, hk1⟩

/-! ## By a nil writer -/
theorem done_nil (w : World) : Calls Try.prog 16 #[.pointer none] w fun e w' => e = .returned (.slice none 0 0) ∧ w = w' := by
  go_enter Try.func16, Try.ntmps16
  go_wp2_with fail
  go_ret
  exact ⟨rfl, rfl⟩
end Go.Proofs.Ythppbefemfkccaa
