/- Things as they are handed in, and what is known of them. -/
import Derived.Test.YtficgbeolmdbiaaPackLaid
namespace Go.Proofs.Ytficgbeolmdbiaa
open Go.RowKit

/-- A thing: its kind. -/
abbrev KTh : K := K.pair (K.int .i64) (K.pair (K.int .i64) (K.pair (K.slice 1 (K.int .u8)) (K.pair (K.arr 32 (K.int .u8)) K.nil)))
abbrev Th : Type := Int × Int × ((Option Addr × Nat) × List Int) × List Int × Unit
def Th.b (x : Th) : List UInt8 := toB x.2.2.1.2
def Th.p (x : Th) : List UInt8 := toB x.2.2.2.1
def Th.spec (x : Th) : List UInt8 := thB x.1 x.2.1 x.b x.p
def Th.ad (x : Th) : Option Addr := x.2.2.1.1.1
def Th.cp (x : Th) : Nat := x.2.2.1.1.2
/-- What is known of a thing. -/
structure Th.fine (w : World) (x : Th) : Prop where
  cells : (K.st KTh).cells x = (.int .i64 x.1 :: .int .i64 x.2.1 :: .slice x.ad x.b.length x.cp :: encB x.p)
  lo : -9223372036854775808 ≤ x.2.1
  hi : x.2.1 ≤ 9223372036854775807
  rd : RdB w x.ad x.b
  p32 : x.p.length = 32
  cap : x.b.length ≤ x.cp
  lt : ∀ a, x.ad = some a → 0 < x.b.length → a.block < w.heap.size
theorem Th.fine_of {w : World} {x : Th} (h : (K.st KTh).ok w x) : x.fine w := by
  obtain ⟨h0, h1, h2, h3, _⟩ := h
  have hb := RdB.of_k h2
  have hp := arrB_of_k h3
  have hw : (Lit.int .i64 x.2.1).wf = true := h1
  have hr : -9223372036854775808 ≤ x.2.1 ∧ x.2.1 ≤ 9223372036854775807 := by simpa [Lit.wf, IntKind.min, IntKind.max, IntKind.signed, IntKind.bits] using hw
  refine ⟨?_, hr.1, hr.2, hb.1, hp.2, hb.2.1, fun a ha hl => Rd.lt hb.1 (by rw [length_encB]; exact hl) ha⟩
  have e1 : (K.arr 32 (K.int .u8)).cells x.2.2.2.1 = encB x.p := hp.1
  have e2 : x.b.length = x.2.2.1.2.length := length_toB _
  rw [e2]
  show Value.int .i64 x.1 :: Value.int .i64 x.2.1 :: Value.slice x.2.2.1.1.1 x.2.2.1.2.length x.2.2.1.1.2 :: ((K.arr 32 (K.int .u8)).cells x.2.2.2.1 ++ []) = _
  rw [e1, List.append_nil]
  rfl
theorem Th.fine.agg {w : World} {x : Th} (h : x.fine w) : Value.agg ((K.st KTh).cells x).toArray = thV x.1 x.2.1 x.ad x.b.length x.cp x.p := by
  rw [h.cells]
  simp [thV]
theorem Th.fine.length {w : World} {x : Th} (h : x.fine w) : ((K.st KTh).cells x).length = 35 := by
  rw [h.cells]
  simp [h.p32]

theorem length_thB (kd n : Int) (l p : List UInt8) (h32 : p.length = 32) : (thB kd n l p).length ≤ l.length + 40 := by
  unfold thB
  have h1 := length_uintB_le (IntKind.u64.wrap n).toNat
  have h2 := length_intB_le n
  have h3 := length_uintB_le l.length
  split
  · omega
  · split
    · omega
    · split
      · simp
      · split
        · simp only [lenB, List.length_append]; omega
        · omega
/-- All of them, laid. -/
def thsB (xs : List Th) : List UInt8 := xs.flatMap Th.spec
theorem thsB_snoc (xs : List Th) (j : Nat) (h : j < xs.length) : thsB (xs.take (j + 1)) = thsB (xs.take j) ++ (xs[j]).spec := by
  rw [List.take_succ_eq_append_getElem h]
  unfold thsB
  rw [List.flatMap_append, List.flatMap_singleton]
theorem length_thsB (xs : List Th) (B : Nat) (h : ∀ x ∈ xs, x.b.length ≤ B ∧ x.p.length = 32) (j : Nat) : (thsB (xs.take j)).length ≤ j * (B + 40) := by
  induction j with
  | zero => simp [thsB]
  | succ j ih =>
    by_cases hj : j < xs.length
    · rw [thsB_snoc xs j hj, List.length_append, Nat.succ_mul]
      have hx := h _ (List.getElem_mem hj)
      have : ((xs[j]).spec).length ≤ (xs[j]).b.length + 40 := length_thB _ _ _ _ hx.2
      omega
    · rw [List.take_of_length_le (by omega)]
      rw [List.take_of_length_le (by omega)] at ih
      rw [Nat.succ_mul]
      omega

theorem info_thing : (Try.prog.info? 35).map (·.size) = some 35 := by kernel_rfl
end Go.Proofs.Ytficgbeolmdbiaa
