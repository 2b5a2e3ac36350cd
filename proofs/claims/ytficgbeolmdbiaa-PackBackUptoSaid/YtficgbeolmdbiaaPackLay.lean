/- A thing laid, by the program: contract. -/
import Derived.Test.YtficgbeolmdbiaaPackNil
import Derived.Deep.MidRow
namespace Go.Proofs.Ytficgbeolmdbiaa
open Go.RowKit

/-- A thing's value: kind, number, bytes, print. -/
def thV (kd n : Int) (A : Option Addr) (k c : Nat) (p : List UInt8) : Value := .agg (#[.int .i64 kd, .int .i64 n, .slice A k c] ++ (encB p).toArray)
/-- What it is. -/
def kind6 (kd : Int) : Int := (IntKind.u64.wrap kd).tmod 6
/-- A thing as bytes. -/
def thB (kd n : Int) (l p : List UInt8) : List UInt8 :=
  if kind6 kd = 0 then uintB (IntKind.u64.wrap n).toNat else if kind6 kd = 1 then intB n else if kind6 kd = 2 then [if 0 < n then 1 else 0]
  else if kind6 kd = 3 ∨ kind6 kd = 4 then lenB l else p
theorem kind6_range (kd : Int) : 0 ≤ kind6 kd ∧ kind6 kd < 6 := by
  have h : 0 ≤ IntKind.u64.wrap kd := by rw [IntKind.wrap_u64]; omega
  unfold kind6
  rw [Int.tmod_eq_emod_of_nonneg h]
  omega

set_option maxHeartbeats 1000000 in
theorem lay_uint (kd n : Int) (hk : kind6 kd = 0) (g : Nat) (A : Option Addr) (c : Nat) (out : List UInt8) (A2 : Option Addr) (l : List UInt8) (c2 : Nat) (p : List UInt8) (w : World) (hw : Wr w g A c out) (hb : out.length + 30 ≤ 140737488355328) :
    Calls Try.prog 10 #[.pointer (some ⟨g, 0, none⟩), thV kd n A2 l.length c2 p] w (WrPost g A (out ++ uintB (IntKind.u64.wrap n).toNat) w) := by
  have HW := Lib.hid hw
  have hk' : (IntKind.u64.wrap kd).tmod 6 = 0 := hk
  obtain ⟨m, hm⟩ : ∃ m : Nat, IntKind.u64.wrap n = (m : Int) := ⟨(IntKind.u64.wrap n).toNat, by rw [IntKind.wrap_u64]; omega⟩
  have hml : m < 18446744073709551616 := by rw [IntKind.wrap_u64] at hm; omega
  rw [hm, Int.toNat_natCast]
  clear hw hk
  unfold thV
  go_enter Try.func10, Try.ntmps10
  go_wp2_with fail
  refine (uint_any m g A c out _ hml (HW.out.keeps ((Keeps.refl [] w).alloc (.cells (Value.int .i64 kd :: Value.int .i64 n :: Value.slice A2 l.length c2 :: encB p).toArray 35)) (by simp) (fun _ _ => by simp)) (by omega)).mono ?_
  intro e w1 hp
  obtain ⟨rfl, hst⟩ := (WrPost.before HW.out.nin ((Keeps.refl [] w).alloc (.cells (Value.int .i64 kd :: Value.int .i64 n :: Value.slice A2 l.length c2 :: encB p).toArray 35)) hp).step
  clear hp
  go_wp2_with fail
  go_ret
  exact hst.post

set_option maxHeartbeats 1000000 in
theorem lay_int (kd n : Int) (hk : kind6 kd = 1) (g : Nat) (A : Option Addr) (c : Nat) (out : List UInt8) (A2 : Option Addr) (l : List UInt8) (c2 : Nat) (p : List UInt8) (w : World) (hw : Wr w g A c out) (hb : out.length + 30 ≤ 140737488355328) (h1 : -9223372036854775808 ≤ n) (h2 : n ≤ 9223372036854775807) :
    Calls Try.prog 10 #[.pointer (some ⟨g, 0, none⟩), thV kd n A2 l.length c2 p] w (WrPost g A (out ++ intB n) w) := by
  have HW := Lib.hid hw
  have hk' : (IntKind.u64.wrap kd).tmod 6 = 1 := hk
  clear hw hk
  unfold thV
  go_enter Try.func10, Try.ntmps10
  go_wp2_with fail
  refine (int_any n h1 h2 g A c out _ (HW.out.keeps ((Keeps.refl [] w).alloc (.cells (Value.int .i64 kd :: Value.int .i64 n :: Value.slice A2 l.length c2 :: encB p).toArray 35)) (by simp) (fun _ _ => by simp)) hb).mono ?_
  intro e w1 hp
  obtain ⟨rfl, hst⟩ := (WrPost.before HW.out.nin ((Keeps.refl [] w).alloc (.cells (Value.int .i64 kd :: Value.int .i64 n :: Value.slice A2 l.length c2 :: encB p).toArray 35)) hp).step
  clear hp
  go_wp2_with fail
  go_ret
  exact hst.post

set_option maxHeartbeats 1000000 in
theorem lay_bool (kd n : Int) (hk : kind6 kd = 2) (g : Nat) (A : Option Addr) (c : Nat) (out : List UInt8) (A2 : Option Addr) (l : List UInt8) (c2 : Nat) (p : List UInt8) (w : World) (hw : Wr w g A c out) (hb : out.length + 30 ≤ 140737488355328) :
    Calls Try.prog 10 #[.pointer (some ⟨g, 0, none⟩), thV kd n A2 l.length c2 p] w (WrPost g A (out ++ [if decide (0 < n) then 1 else 0]) w) := by
  have HW := Lib.hid hw
  have hk' : (IntKind.u64.wrap kd).tmod 6 = 2 := hk
  clear hw hk
  unfold thV
  by_cases hn : 0 < n
  · rw [show (if decide (0 < n) then (1 : UInt8) else 0) = (if true then 1 else 0) by simp [hn]]
    go_enter Try.func10, Try.ntmps10
    go_wp2_with fail
    refine (bool_any true g A c out _ (HW.out.keeps ((Keeps.refl [] w).alloc (.cells (Value.int .i64 kd :: Value.int .i64 n :: Value.slice A2 l.length c2 :: encB p).toArray 35)) (by simp) (fun _ _ => by simp)) (by omega)).mono ?_
    intro e w1 hp
    obtain ⟨rfl, hst⟩ := (WrPost.before HW.out.nin ((Keeps.refl [] w).alloc (.cells (Value.int .i64 kd :: Value.int .i64 n :: Value.slice A2 l.length c2 :: encB p).toArray 35)) hp).step
    clear hp
    go_wp2_with fail
    go_ret
    exact hst.post
  · rw [show (if decide (0 < n) then (1 : UInt8) else 0) = (if false then 1 else 0) by simp [hn]]
    go_enter Try.func10, Try.ntmps10
    go_wp2_with fail
    refine (bool_any false g A c out _ (HW.out.keeps ((Keeps.refl [] w).alloc (.cells (Value.int .i64 kd :: Value.int .i64 n :: Value.slice A2 l.length c2 :: encB p).toArray 35)) (by simp) (fun _ _ => by simp)) (by omega)).mono ?_
    intro e w1 hp
    obtain ⟨rfl, hst⟩ := (WrPost.before HW.out.nin ((Keeps.refl [] w).alloc (.cells (Value.int .i64 kd :: Value.int .i64 n :: Value.slice A2 l.length c2 :: encB p).toArray 35)) hp).step
    clear hp
    go_wp2_with fail
    go_ret
    exact hst.post

set_option maxHeartbeats 1000000 in
theorem lay_bytes (kd n : Int) (hk : kind6 kd = 4) (g : Nat) (A : Option Addr) (c : Nat) (out : List UInt8) (A2 : Option Addr) (l : List UInt8) (c2 : Nat) (p : List UInt8) (w : World) (hw : Wr w g A c out) (hb : out.length + l.length + 30 ≤ 140737488355328) (hr : RdB w A2 l) (hA : ∀ a, A2 = some a → 0 < l.length → a.block ≠ g ∧ a.block ∉ blk A) :
    Calls Try.prog 10 #[.pointer (some ⟨g, 0, none⟩), thV kd n A2 l.length c2 p] w (WrPost g A (out ++ lenB l) w) := by
  have HW := Lib.hid hw
  have hk' : (IntKind.u64.wrap kd).tmod 6 = 4 := hk
  have HR := Lib.hid hr
  clear hr
  clear hw hk
  unfold thV
  go_enter Try.func10, Try.ntmps10
  go_wp2_with fail
  refine (bytes_any g A c out A2 l c2 _ (HW.out.keeps ((Keeps.refl [] w).alloc (.cells (Value.int .i64 kd :: Value.int .i64 n :: Value.slice A2 l.length c2 :: encB p).toArray 35)) (by simp) (fun _ _ => by simp)) (HR.out.alloc _) hA (by omega)).mono ?_
  intro e w1 hp
  obtain ⟨rfl, hst⟩ := (WrPost.before HW.out.nin ((Keeps.refl [] w).alloc (.cells (Value.int .i64 kd :: Value.int .i64 n :: Value.slice A2 l.length c2 :: encB p).toArray 35)) hp).step
  clear hp
  go_wp2_with fail
  go_ret
  exact hst.post

set_option maxHeartbeats 1000000 in
theorem lay_text (kd n : Int) (hk : kind6 kd = 3) (g : Nat) (A : Option Addr) (c : Nat) (out : List UInt8) (A2 : Option Addr) (l : List UInt8) (c2 : Nat) (p : List UInt8) (w : World) (hw : Wr w g A c out) (hb : out.length + l.length + 30 ≤ 140737488355328) (hr : RdB w A2 l) :
    Calls Try.prog 10 #[.pointer (some ⟨g, 0, none⟩), thV kd n A2 l.length c2 p] w (WrPost g A (out ++ lenB l) w) := by
  have HW := Lib.hid hw
  have hk' : (IntKind.u64.wrap kd).tmod 6 = 3 := hk
  have F := conv_keeps (P := Try.prog) (dst := 9) Try.underlying23 Try.underlying5 Try.underlying9 hr c2 _ ((Keeps.refl [] w).alloc (.cells (Value.int .i64 kd :: Value.int .i64 n :: Value.slice A2 l.length c2 :: encB p).toArray 35))
  clear hw hk hr
  unfold thV
  go_enter Try.func10, Try.ntmps10
  go_wp2_with fail
  refine (text_any g A c out l _ (HW.out.keeps ((Keeps.refl [] w).alloc (.cells (Value.int .i64 kd :: Value.int .i64 n :: Value.slice A2 l.length c2 :: encB p).toArray 35)) (by simp) (fun _ _ => by simp)) hb).mono ?_
  intro e w1 hp
  obtain ⟨rfl, hst⟩ := (WrPost.before HW.out.nin ((Keeps.refl [] w).alloc (.cells (Value.int .i64 kd :: Value.int .i64 n :: Value.slice A2 l.length c2 :: encB p).toArray 35)) hp).step
  clear hp
  go_wp2_with fail
  go_ret
  exact hst.post

theorem print_range (w : World) (a b c : Value) (p : List UInt8) (T : TypeId) : (w.alloc (.cells (a :: b :: c :: encB p).toArray T)).rangeAt w.heap.size 3 (encB p) := by
  intro j v hv
  rw [cell_of_row _ _ _ _ _ _ (heap_alloc_new _ _)]
  simpa [Nat.add_comm 3 j] using hv
theorem info_print : (Try.prog.info? 33).map (·.size) = some 32 := by kernel_rfl
set_option maxHeartbeats 1000000 in
theorem lay_print (kd n : Int) (hk : kind6 kd = 5) (g : Nat) (A : Option Addr) (c : Nat) (out : List UInt8) (A2 : Option Addr) (l : List UInt8) (c2 : Nat) (p : List UInt8) (h32 : p.length = 32) (w : World) (hw : Wr w g A c out) (hb : out.length + 40 ≤ 140737488355328) :
    Calls Try.prog 10 #[.pointer (some ⟨g, 0, none⟩), thV kd n A2 l.length c2 p] w (WrPost g A (out ++ p) w) := by
  have HW := Lib.hid hw
  have hk' : (IntKind.u64.wrap kd).tmod 6 = 5 := hk
  have HI := Lib.hid (show (Try.prog.info? 33).map (·.size) = some (encB p).length by rw [length_encB, h32]; exact info_print)
  have HPR := Lib.hid (print_range w (.int .i64 kd) (.int .i64 n) (.slice A2 l.length c2) p 35)
  have H32 := Lib.hid h32
  clear hw hk h32
  unfold thV
  go_enter Try.func10, Try.ntmps10
  go_wp2_with (refine wpList_load_mid rfl 33 (.tmp 44) rfl w.heap.size 3 rfl (encB p) _ HPR.out Try.underlying33 rfl HI.out ?_)
  refine (print_any g A c out p H32.out _ (HW.out.keeps ((Keeps.refl [] w).alloc _) (by simp) (fun _ _ => by simp)) (by omega)).mono ?_
  intro e w1 hp
  obtain ⟨rfl, hst⟩ := (WrPost.before HW.out.nin ((Keeps.refl [] w).alloc _) hp).step
  clear hp
  go_wp2_with fail
  go_ret
  exact hst.post
end Go.Proofs.Ytficgbeolmdbiaa
