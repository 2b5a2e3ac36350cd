/- A filter in memory; a filter begun, and the bits that a key asks for: contracts. -/
import Derived.Test.YthppbefemfkccaaProg
import Derived.Test.YthppbefemfkccaaBloomPlain
import Derived.Test.YthppbefemfkccaaHorner
import Derived.Test.YthppbefemfkccaaStore
import Derived.Test.YthppbefemfkccaaStr
import Derived.Test.YthppbefemfkccaaPackWr
import Derived.Test.YthppbefemfkccaaWant
import Derived.Laws.MakeOwn
import Derived.Laws.OwnMore
import Derived.Lib.ConvBytes
namespace Go.Proofs.Ythppbefemfkccaa
open Go.RowKit

theorem own_of_block {E : TypeId} {w : World} {g : Nat} {l : List UInt8} (h : w.heap[g]? = some (.cells (encB l).toArray E (0, 0))) (hl : l.length ≤ maxLen) : OwnB E w (some ⟨g, 0, none⟩) l.length l := by
  refine ⟨by simp, .inr ⟨g, l.length, (encB l).toArray, rfl, Nat.zero_le _, h, Nat.le_refl _, hl, by simp, ?_⟩⟩
  rw [Nat.mul_one]
  exact List.take_of_length_le (by simp)
/-- A filter: so many bits, so many asked, its bytes. -/
def Fm (w : World) (g n k : Nat) (A : Option Addr) (c : Nat) (bs : List UInt8) : Prop :=
  w.heap[g]? = some (.cells #[.int .i64 (n : Int), .int .i64 (k : Int), .slice A bs.length c] 41 (0, 0)) ∧ OwnB 5 w A c bs ∧ ∀ a, A = some a → a.block ≠ g
theorem Fm.lt {w : World} {g n k : Nat} {A : Option Addr} {c : Nat} {bs : List UInt8} (h : Fm w g n k A c bs) : g < w.heap.size := lt_of_block h.1
theorem Fm.keeps {S : List Nat} {w w' : World} {g n k : Nat} {A : Option Addr} {c : Nat} {bs : List UInt8} (h : Fm w g n k A c bs) (hk : Keeps S w w') (hg : g ∉ S) (hA : ∀ a, A = some a → a.block ∉ S) : Fm w' g n k A c bs :=
  ⟨(hk.block g h.lt hg).trans h.1, h.2.1.keeps hk hA, h.2.2⟩
theorem Fm.keeps0 {w w' : World} {g n k : Nat} {A : Option Addr} {c : Nat} {bs : List UInt8} (h : Fm w g n k A c bs) (hk : Keeps [] w w') : Fm w' g n k A c bs := h.keeps hk (by simp) (fun _ _ => by simp)
theorem Fm.cells {w : World} {g n k : Nat} {A : Option Addr} {c : Nat} {bs : List UInt8} (h : Fm w g n k A c bs) : w.cell? ⟨g, 0, none⟩ = some (.int .i64 (n : Int)) ∧ w.cell? ⟨g, 1, none⟩ = some (.int .i64 (k : Int)) ∧ w.cell? ⟨g, 2, none⟩ = some (.slice A bs.length c) := by
  refine ⟨?_, ?_, ?_⟩ <;> (rw [cell_of_row _ _ _ _ _ _ h.1]; rfl)

theorem infoB8 : (Try.prog.info? 5).map (fun i => (i.zero, i.size, i.bytes)) = some (some (.int .u8 0), 1, 1) := by kernel_rfl
theorem infoI8 : (Try.prog.info? 3).map (fun i => (i.zero, i.size, i.bytes)) = some (some (.int .i64 0), 1, 8) := by kernel_rfl
theorem infoI1 : (Try.prog.info? 3).map (·.size) = some 1 := by kernel_rfl
theorem infoB81 : (Try.prog.info? 5).map (·.size) = some 1 := by kernel_rfl
theorem made_is (v : Value) (h : v.cells = #[v]) (n : Nat) : madeCells v.cells (n * 1) = (List.replicate n v).toArray := by
  apply Array.ext
  · simp [madeCells]
  · intro i h1 h2
    simp [madeCells, h, Nat.mod_one]
theorem make_bytes (w : World) (m : Nat) (hm : m ≤ 1048576) : (Instr.makeSlice 32 (.int .i64 (m : Int)) (.int .i64 (m : Int))).run Try.prog w = .ok (.slice (some ⟨w.heap.size, 0, none⟩) m m) (w.alloc (.cells (encB (List.replicate m 0)).toArray 5)) := by
  obtain ⟨i, hi, hz0, hz1, hz2⟩ := info_parts infoB8
  have := run_make (P := Try.prog) w 32 5 i (.int .u8 0) Try.underlying32 hi hz0 .i64 .i64 m m (by omega) (Int.le_refl _) (by rw [hz2]; omega) (by omega)
  rw [this, hz1, Int.toNat_natCast, made_is _ rfl]
  simp [encB]
theorem make_ints (w : World) (m : Nat) (hm : m ≤ 1048576) : (Instr.makeSlice 42 (.int .i64 (m : Int)) (.int .i64 (m : Int))).run Try.prog w = .ok (.slice (some ⟨w.heap.size, 0, none⟩) m m) (w.alloc (.cells (List.replicate m (.int .i64 0)).toArray 3)) := by
  obtain ⟨i, hi, hz0, hz1, hz2⟩ := info_parts infoI8
  have := run_make (P := Try.prog) w 42 3 i (.int .i64 0) Try.underlying42 hi hz0 .i64 .i64 m m (by omega) (Int.le_refl _) (by rw [hz2]; omega) (by omega)
  rw [this, hz1, Int.toNat_natCast, made_is _ rfl]

/-- A filter begun. -/
def NewFP (n k : Nat) (w : World) (e : Ending) (w' : World) : Prop :=
  ∃ g A, e = .returned (.tuple #[.pointer (some ⟨g, 0, none⟩), .nilIface]) ∧ Fm w' g n k A ((n + 7) / 8) (List.replicate ((n + 7) / 8) 0) ∧ w.heap.size ≤ g ∧ (∀ a, A = some a → w.heap.size ≤ a.block) ∧ Keeps [] w w'
set_option maxHeartbeats 2000000 in
theorem bnew_any (n k : Nat) (w : World) (hn : 1 ≤ n ∧ n ≤ 1048576) (hk : 1 ≤ k ∧ k ≤ 16) :
    Calls Try.prog 5 #[.int .i64 n, .int .i64 k] w (NewFP n k w) := by
  obtain ⟨m, hm⟩ : ∃ m, m = (n + 7) / 8 := ⟨_, rfl⟩
  have t1 : (n : Int) + 7 = ((n + 7 : Nat) : Int) := by omega
  have t2 : ((n : Int) + 7).tdiv 8 = (m : Int) := by rw [Int.tdiv_eq_ediv_of_nonneg (by omega)]; omega
  have t3 : ((n : Int) + 7) / 8 = (m : Int) := by omega
  have t4 : IntKind.i64.wrap ((n : Int) + 7) = (n : Int) + 7 := by rw [IntKind.wrap_i64]; omega
  have hms := make_bytes w m (by omega)
  have HM := Lib.hid (show m = (n + 7) / 8 ∧ m ≤ 1048576 from ⟨hm, by omega⟩)
  obtain ⟨hn1, hn2⟩ := hn
  obtain ⟨hk1, hk2⟩ := hk
  have c1 : ¬ ((n : Int) < 1) := by omega
  have c2 : ¬ (1048576 < (n : Int)) := by omega
  have c3 : ¬ ((k : Int) < 1) := by omega
  have c4 : ¬ (16 < (k : Int)) := by omega
  clear hm hn1 hn2 hk1 hk2 t1
  go_enter Try.func5, Try.ntmps5
  go_wp2_with fail
  go_ret2
  unfold NewFP
  rw [← HM.out.1]
  have HB : BB (w.alloc (.cells (encB (List.replicate m 0)).toArray 5)) w.heap.size 5 (List.replicate m 0) := heap_alloc_new _ _
  refine ⟨w.heap.size + 1, some ⟨w.heap.size, 0, none⟩, rfl, ⟨?_, ?_, ?_⟩, by omega, ?_, ((Keeps.refl [] w).alloc _).alloc _⟩
  · have h := heap_alloc_new (w.alloc (.cells (encB (List.replicate m 0)).toArray 5)) (.cells #[.int .i64 (n : Int), .int .i64 (k : Int), .slice (some ⟨w.heap.size, 0, none⟩) m m] 41)
    simpa using h
  · have h := own_of_block (HB.keeps ((Keeps.refl [] _).alloc (.cells #[.int .i64 (n : Int), .int .i64 (k : Int), .slice (some ⟨w.heap.size, 0, none⟩) m m] 41)) (by simp)) (by have := HM.out.2; simp [maxLen]; omega)
    simpa using h
  · intro a ha; cases ha; simp
  · intro a ha; cases ha; simp

/-- Whole numbers in a block. -/
def encI (l : List Nat) : List Value := l.map fun (x : Nat) => .int .i64 (x : Int)
@[simp] theorem length_encI (l : List Nat) : (encI l).length = l.length := by simp [encI]
def IB (w : World) (g : Nat) (xs : List Value) : Prop := w.heap[g]? = some (.cells xs.toArray 3 (0, 0))
theorem IB.keeps {S : List Nat} {w w' : World} {g : Nat} {xs : List Value} (h : IB w g xs) (hk : Keeps S w w') (hg : g ∉ S) : IB w' g xs := (hk.block g (lt_of_block h) hg).trans h
theorem IB.cell {w : World} {g : Nat} {xs : List Value} (h : IB w g xs) (i : Nat) (hi : i < xs.length) : w.cell? ⟨g, i, none⟩ = some xs[i] := by
  rw [cell_of_row _ _ _ _ _ _ h, List.getElem?_toArray, List.getElem?_eq_getElem hi]
theorem IB.set {w : World} {g : Nat} {xs : List Value} (h : IB w g xs) (i : Nat) (v : Value) : IB (w.setCell ⟨g, i, none⟩ v) g (xs.set i v) := by
  unfold IB
  rw [heap_setCell_same w g i _ _ _ h]
  simp
/-- The bits that a key asks for, in new memory. -/
def BitsP (n k : Nat) (s : List UInt8) (w : World) (e : Ending) (w' : World) : Prop :=
  ∃ g, e = .returned (.slice (some ⟨g, 0, none⟩) k k) ∧ IB w' g (encI (bitsK n k s)) ∧ w.heap.size ≤ g ∧ Keeps [] w w'
set_option maxHeartbeats 8000000 in
theorem bits_any (g n k : Nat) (A : Option Addr) (c : Nat) (bs : List UInt8) (s : List UInt8) (w : World) (h : Fm w g n k A c bs) (hn : 1 ≤ n ∧ n ≤ 1048576) (hk : 1 ≤ k ∧ k ≤ 16) (hs : s.length ≤ 140737488351232) :
    Calls Try.prog 12 #[.pointer (some ⟨g, 0, none⟩), .string (strB s)] w (BitsP n k s w) := by
  have H := Lib.hid h
  have HS := Lib.hid hs
  have kc := Lib.run_convert_string_bytes (P := Try.prog) w 9 32 5 (strB s) Try.underlying9 Try.underlying32 Try.underlying5
  rw [strB_size] at kc
  obtain ⟨W1, hW1⟩ : ∃ W1, W1 = Lib.bytesWorld w 5 (strB s) := ⟨_, rfl⟩
  have HK1 := Lib.hid (show Keeps [] w W1 by rw [hW1]; exact keeps_conv w _ _)
  have HR1 := Lib.hid (show RdB W1 (some ⟨w.heap.size, 0, none⟩) s by rw [hW1]; exact rd_conv w _ s)
  rw [← hW1] at kc
  obtain ⟨a, ha⟩ : ∃ a, a = keyA s := ⟨_, rfl⟩
  obtain ⟨b, hb⟩ : ∃ b, b = keyB s := ⟨_, rfl⟩
  have ha2 : a < 2147483647 := by rw [ha]; exact keyA_lt s
  have hb2 : b < 2147483647 := by rw [hb]; exact keyB_lt s
  have HA := Lib.hid (show hmore 1 s = (a : Int) by rw [ha]; exact keyA_is s)
  have HB := Lib.hid (show hmore 1 (1 :: s) = (b : Int) by rw [hb]; exact keyB_is s)
  have HBK := Lib.hid (show ∀ i, bitK n s i = (a + i * b) % n from fun i => by rw [ha, hb]; rfl)
  obtain ⟨hn1, hn2⟩ := hn
  obtain ⟨hk1, hk2⟩ := hk
  clear h hs hW1 ha hb
  go_enter Try.func12, Try.ntmps12
  go_wp2_with fail
  refine (sum_any (some ⟨w.heap.size, 0, none⟩) s _ W1 (by have := HS.out; omega) HR1.out).mono ?_
  rintro e w1 ⟨rfl, rfl⟩
  rw [HA.out]
  have hown := own_of_block (E := 5) (w := W1.alloc (.cells (encB [1]).toArray 5)) (g := W1.heap.size) (l := [1]) (heap_alloc_new _ _) (by decide)
  have HOW := Lib.hid hown
  clear hown kc
  go_wp2_with (at_builtin; refine wpList_appendS rfl (.tmp 15) (.tmp 16) 32 9 5 rfl Try.underlying32 Try.underlying9 infoB8 (some ⟨W1.heap.size, 0, none⟩) 1 [1] rfl HOW.out s rfl (by have := HS.out; simp; omega) ?_
               intro A2 c2 w2 l2 hl2 ho2 hk2 hb2
               have H2 := Lib.hid (show RdB w2 A2 l2 ∧ l2 = 1 :: s ∧ Keeps [] w w2 from ⟨ho2.rd, hl2.out, (HK1.out.alloc _).fresh hk2 (fun ad e => by cases e; exact HK1.out.size)⟩)
               clear hl2 ho2 hk2 hb2 HOW)
  refine (sum_any A2 l2 c2 w2 (by rw [H2.out.2.1]; have := HS.out; simp; omega) H2.out.1).mono ?_
  rintro e w3 ⟨rfl, rfl⟩
  rw [H2.out.2.1, HB.out]
  have HF := Lib.hid (H.out.keeps0 H2.out.2.2)
  have q1 := HF.out.cells.2.1
  have hms := make_ints w2 k (by omega)
  obtain ⟨gl, hgl⟩ : ∃ gl, gl = w2.heap.size := ⟨_, rfl⟩
  obtain ⟨W4, hW4⟩ : ∃ W4, W4 = w2.alloc (.cells (List.replicate k (.int .i64 0)).toArray 3) := ⟨_, rfl⟩
  rw [← hW4, ← hgl] at hms
  have HG := Lib.hid (show w.heap.size ≤ gl ∧ g < gl ∧ ∀ a, A = some a → a.block < gl from ⟨by rw [hgl]; exact H2.out.2.2.size, by rw [hgl]; exact HF.out.lt, by rw [hgl]; exact HF.out.2.1.lt⟩)
  have INV := Lib.hid (show ∃ xs : List Value, xs.length = k ∧ xs.take 0 = (encI (bitsK n k s)).take 0 ∧ IB W4 gl xs ∧ Fm W4 g n k A c bs ∧ Keeps [] w W4 from by
    rw [hW4, hgl]
    exact ⟨_, by simp, by simp, heap_alloc_new _ _, HF.out.keeps0 ((Keeps.refl [] w2).alloc _), H2.out.2.2.alloc _⟩)
  clear hgl hW4 H2 HF HK1 HR1
  go_wp2_with fail
  go_loopw [27] (fun si wr => ∃ i : Nat, i ≤ k ∧ si = .int .i64 i ∧ Hid (∃ xs : List Value, xs.length = k ∧ xs.take i = (encI (bitsK n k s)).take i ∧ IB wr gl xs ∧ Fm wr g n k A c bs ∧ Keeps [] w wr)) (fun si _ => k - (intOf si).toNat)
  case atStart => exact ⟨0, Nat.zero_le _, rfl, INV.out⟩
  case round =>
    clear INV q1 hms
    obtain ⟨i, hi, rfl, hinv⟩ := hrel
    by_cases hlt : i < k
    · have hik : (i : Int) < (k : Int) := by omega
      obtain ⟨xs, hxl, hxt, hib, hfm, hkp⟩ := hinv.out
      have q0 := hfm.cells.1
      obtain ⟨m, hm⟩ : ∃ m, m = i * b := ⟨_, rfl⟩
      obtain ⟨sm, hsm⟩ : ∃ z, z = a + m := ⟨_, rfl⟩
      obtain ⟨r, hr⟩ : ∃ r, r = sm % n := ⟨_, rfl⟩
      have hmb : m < 34359738368 := by
        have h1 : i * b ≤ 15 * 2147483647 := Nat.mul_le_mul (by omega) (by omega)
        omega
      have f0 : IntKind.u64.wrap (i : Int) = (i : Int) := by rw [IntKind.wrap_u64]; omega
      have f1 : IntKind.u64.wrap ((i : Int) * (b : Int)) = (m : Int) := by
        rw [show (i : Int) * (b : Int) = (m : Int) by rw [hm]; simp, IntKind.wrap_u64]; omega
      have f2 : IntKind.u64.wrap ((a : Int) + (m : Int)) = (sm : Int) := by rw [IntKind.wrap_u64]; omega
      have f3 : IntKind.u64.wrap (n : Int) = (n : Int) := by rw [IntKind.wrap_u64]; omega
      have f4 : (sm : Int).tmod (n : Int) = (r : Int) := by rw [Int.tmod_eq_emod_of_nonneg (by omega), hr]; simp
      have f5 : IntKind.i64.wrap (r : Int) = (r : Int) := by
        have : r < n := by rw [hr]; exact Nat.mod_lt _ (by omega)
        rw [IntKind.wrap_i64]; omega
      have f6 : ((n : Int) == 0) = false := by simp; omega
      have HR := Lib.hid (show bitK n s i = r by rw [HBK.out, hr, hsm, hm])
      have hil : i < xs.length := by omega
      have q2 := hib.cell i hil
      obtain ⟨v0, hv0⟩ : ∃ v, v = xs[i] := ⟨_, rfl⟩
      rw [← hv0] at q2
      have fz := frozen_of_row wr gl i _ _ hib
      have HN := Lib.hid (show ∀ w', w' = wr.setCell ⟨gl, i, none⟩ (.int .i64 (r : Int)) → ∃ xs : List Value, xs.length = k ∧ xs.take (i + 1) = (encI (bitsK n k s)).take (i + 1) ∧ IB w' gl xs ∧ Fm w' g n k A c bs ∧ Keeps [] w w' from by
        rintro w' rfl
        refine ⟨xs.set i (.int .i64 (r : Int)), by simpa using hxl, ?_, hib.set i _, hfm.keeps (S := [gl]) ((Keeps.refl [gl] wr).setCell (p := ⟨gl, i, none⟩) (.inl (by simp)) _) (by simp; have := HG.out.2.1; omega) ?_, hkp.setCell (.inr HG.out.1) _⟩
        · rw [List.take_add_one, List.take_add_one, List.getElem?_set_self hil, List.take_set_of_le (Nat.le_refl i), hxt]
          congr 1
          simp only [encI, List.getElem?_map]
          rw [List.getElem?_eq_getElem (by simpa using hlt), bitsK_get n k s i hlt, HR.out]
          rfl
        · intro ad e
          have := HG.out.2.2 ad e
          simp; omega)
      clear hm hsm hr hmb hinv hxl hxt hib hfm hkp hil hv0
      go_wp2_with (refine wpList_store_cell rfl 3 (.tmp 45) (.tmp 44) rfl gl i (.int .i64 (r : Int)) v0 rfl rfl rfl q2 fz infoI1 ?_)
      go_roundw
      case rel => exact ⟨i + 1, by omega, by go_num, HN.out _ rfl⟩
      case measure => simp [intOf]; omega
    · have hik : ¬ (i : Int) < (k : Int) := by omega
      have HKI := Lib.hid (show i = k by omega)
      clear hlt
      go_wp2_with fail
      go_ret
      obtain ⟨xs, hxl, hxt, hib, hfm, hkp⟩ := hinv.out
      have e1 : xs = encI (bitsK n k s) := by
        rw [HKI.out, List.take_of_length_le (by omega), List.take_of_length_le (by simp)] at hxt
        exact hxt
      exact ⟨gl, rfl, by rw [← e1]; exact hib, HG.out.1, hkp⟩
end Go.Proofs.Ythppbefemfkccaa
