/- A filter in memory; a filter begun, and the bits that a key asks for: contracts. A region that draws its order and ends in a store (number z, which waits for all others): what is known of the world need not hold behind that store. No program is named here. A key laid in, asked for, and how many bits are set: contracts. -/
import Derived.Test.YthppbefemfkccaaDoorProg
import Derived.Test.YthppbefemfkccaaDoorQBloomRuns1
import Derived.Test.YthppbefemfkccaaDoorQBloomRuns2
import Derived.Test.YthppbefemfkccaaDoorQBloomRuns3
import Derived.Laws.MakeOwn
import Derived.Laws.OwnMore
import Derived.Lib.ConvBytes
namespace Go.Proofs.YthppbefemfkccaaDoor
open Go.RowKit

theorem own_of_block {E : TypeId} {w : World} {g : Nat} {l : List UInt8} (h : w.heap[g]? = some (.cells (encB l).toArray E (0, 0))) (hl : l.length ≤ maxLen) : OwnB E w (some ⟨g, 0, none⟩) l.length l := by
  refine ⟨by simp, .inr ⟨g, l.length, (encB l).toArray, rfl, Nat.zero_le _, h, Nat.le_refl _, hl, by simp, ?_⟩⟩
  rw [Nat.mul_one]
  exact List.take_of_length_le (by simp)
/-- A filter: so many bits, so many asked, its bytes. -/
def Fm (w : World) (g n k : Nat) (A : Option Addr) (c : Nat) (bs : List UInt8) : Prop :=
  w.heap[g]? = some (.cells #[.int .i64 (n : Int), .int .i64 (k : Int), .slice A bs.length c] 57 (0, 0)) ∧ OwnB 5 w A c bs ∧ ∀ a, A = some a → a.block ≠ g
theorem Fm.lt {w : World} {g n k : Nat} {A : Option Addr} {c : Nat} {bs : List UInt8} (h : Fm w g n k A c bs) : g < w.heap.size := lt_of_block h.1
theorem Fm.keeps {S : List Nat} {w w' : World} {g n k : Nat} {A : Option Addr} {c : Nat} {bs : List UInt8} (h : Fm w g n k A c bs) (hk : Keeps S w w') (hg : g ∉ S) (hA : ∀ a, A = some a → a.block ∉ S) : Fm w' g n k A c bs :=
  ⟨(hk.block g h.lt hg).trans h.1, h.2.1.keeps hk hA, h.2.2⟩
theorem Fm.keeps0 {w w' : World} {g n k : Nat} {A : Option Addr} {c : Nat} {bs : List UInt8} (h : Fm w g n k A c bs) (hk : Keeps [] w w') : Fm w' g n k A c bs := h.keeps hk (by simp) (fun _ _ => by simp)
theorem Fm.cells {w : World} {g n k : Nat} {A : Option Addr} {c : Nat} {bs : List UInt8} (h : Fm w g n k A c bs) : w.cell? ⟨g, 0, none⟩ = some (.int .i64 (n : Int)) ∧ w.cell? ⟨g, 1, none⟩ = some (.int .i64 (k : Int)) ∧ w.cell? ⟨g, 2, none⟩ = some (.slice A bs.length c) := by
  refine ⟨?_, ?_, ?_⟩ <;> (rw [cell_of_row _ _ _ _ _ _ h.1]; rfl)

theorem infoB8 : (Tryd.prog.info? 5).map (fun i => (i.zero, i.size, i.bytes)) = some (some (.int .u8 0), 1, 1) := by kernel_rfl
theorem infoI8 : (Tryd.prog.info? 3).map (fun i => (i.zero, i.size, i.bytes)) = some (some (.int .i64 0), 1, 8) := by kernel_rfl
theorem infoI1 : (Tryd.prog.info? 3).map (·.size) = some 1 := by kernel_rfl
theorem infoB81 : (Tryd.prog.info? 5).map (·.size) = some 1 := by kernel_rfl
theorem made_is (v : Value) (h : v.cells = #[v]) (n : Nat) : madeCells v.cells (n * 1) = (List.replicate n v).toArray := by
  apply Array.ext
  · simp [madeCells]
  · intro i h1 h2
    simp [madeCells, h, Nat.mod_one]
theorem make_bytes (w : World) (m : Nat) (hm : m ≤ 1048576) : (Instr.makeSlice 44 (.int .i64 (m : Int)) (.int .i64 (m : Int))).run Tryd.prog w = .ok (.slice (some ⟨w.heap.size, 0, none⟩) m m) (w.alloc (.cells (encB (List.replicate m 0)).toArray 5)) := by
  obtain ⟨i, hi, hz0, hz1, hz2⟩ := info_parts infoB8
  have := run_make (P := Tryd.prog) w 44 5 i (.int .u8 0) Tryd.underlying44 hi hz0 .i64 .i64 m m (by omega) (Int.le_refl _) (by rw [hz2]; omega) (by omega)
  rw [this, hz1, Int.toNat_natCast, made_is _ rfl]
  simp [encB]
theorem make_ints (w : World) (m : Nat) (hm : m ≤ 1048576) : (Instr.makeSlice 37 (.int .i64 (m : Int)) (.int .i64 (m : Int))).run Tryd.prog w = .ok (.slice (some ⟨w.heap.size, 0, none⟩) m m) (w.alloc (.cells (List.replicate m (.int .i64 0)).toArray 3)) := by
  obtain ⟨i, hi, hz0, hz1, hz2⟩ := info_parts infoI8
  have := run_make (P := Tryd.prog) w 37 3 i (.int .i64 0) Tryd.underlying37 hi hz0 .i64 .i64 m m (by omega) (Int.le_refl _) (by rw [hz2]; omega) (by omega)
  rw [this, hz1, Int.toNat_natCast, made_is _ rfl]

/-- A filter begun. -/
def NewFP (n k : Nat) (w : World) (e : Ending) (w' : World) : Prop :=
  ∃ g A, e = .returned (.tuple #[.pointer (some ⟨g, 0, none⟩), .nilIface]) ∧ Fm w' g n k A ((n + 7) / 8) (List.replicate ((n + 7) / 8) 0) ∧ w.heap.size ≤ g ∧ (∀ a, A = some a → w.heap.size ≤ a.block) ∧ Keeps [] w w'
set_option maxHeartbeats 2000000 in
theorem bnew_any (n k : Nat) (w : World) (hn : 1 ≤ n ∧ n ≤ 1048576) (hk : 1 ≤ k ∧ k ≤ 16) :
    Calls Tryd.prog 6 #[.int .i64 n, .int .i64 k] w (NewFP n k w) := by
  obtain ⟨m, hm⟩ : ∃ m, m = (n + 7) / 8 := ⟨_, rfl⟩
  have t1 : (n : Int) + 7 = ((n + 7 : Nat) : Int) := by omega
  have t2 : ((n : Int) + 7).tdiv 8 = (m : Int) := by rw [Int.tdiv_eq_ediv_of_nonneg (by omega)]; omega
  have t3 : ((n : Int) + 7) / 8 = (m : Int) := by omega
  have t4 : IntKind.i64.wrap ((n : Int) + 7) = (n : Int) + 7 := by rw [IntKind.wrap_i64]; omega
  have hms := make_bytes w m (by omega)
  have HM := Lib.hid (show m = (n + 7) / 8 ∧ m ≤ 1048576 from ⟨hm, by omega⟩)
  obtain ⟨hn1, hn2⟩ := hn
  obtain ⟨hk1, hk2⟩ := hk
  have c1 : ¬ ((n : Int) < 1) := by omega
  have c2 : ¬ (1048576 < (n : Int)) := by omega
  have c3 : ¬ ((k : Int) < 1) := by omega
  have c4 : ¬ (16 < (k : Int)) := by omega
  clear hm hn1 hn2 hk1 hk2 t1
  go_enter Tryd.func6, Tryd.ntmps6
  go_wp2_with fail
  go_ret2
  unfold NewFP
  rw [← HM.out.1]
  have HB : BB (w.alloc (.cells (encB (List.replicate m 0)).toArray 5)) w.heap.size 5 (List.replicate m 0) := heap_alloc_new _ _
  refine ⟨w.heap.size + 1, some ⟨w.heap.size, 0, none⟩, rfl, ⟨?_, ?_, ?_⟩, by omega, ?_, ((Keeps.refl [] w).alloc _).alloc _⟩
  · have h := heap_alloc_new (w.alloc (.cells (encB (List.replicate m 0)).toArray 5)) (.cells #[.int .i64 (n : Int), .int .i64 (k : Int), .slice (some ⟨w.heap.size, 0, none⟩) m m] 57)
    simpa using h
  · have h := own_of_block (HB.keeps ((Keeps.refl [] _).alloc (.cells #[.int .i64 (n : Int), .int .i64 (k : Int), .slice (some ⟨w.heap.size, 0, none⟩) m m] 57)) (by simp)) (by have := HM.out.2; simp [maxLen]; omega)
    simpa using h
  · intro a ha; cases ha; simp
  · intro a ha; cases ha; simp

/-- Whole numbers in a block. -/
def encI (l : List Nat) : List Value := l.map fun (x : Nat) => .int .i64 (x : Int)
@[simp] theorem length_encI (l : List Nat) : (encI l).length = l.length := by simp [encI]
def IB (w : World) (g : Nat) (xs : List Value) : Prop := w.heap[g]? = some (.cells xs.toArray 3 (0, 0))
theorem IB.keeps {S : List Nat} {w w' : World} {g : Nat} {xs : List Value} (h : IB w g xs) (hk : Keeps S w w') (hg : g ∉ S) : IB w' g xs := (hk.block g (lt_of_block h) hg).trans h
theorem IB.cell {w : World} {g : Nat} {xs : List Value} (h : IB w g xs) (i : Nat) (hi : i < xs.length) : w.cell? ⟨g, i, none⟩ = some xs[i] := by
  rw [cell_of_row _ _ _ _ _ _ h, List.getElem?_toArray, List.getElem?_eq_getElem hi]
theorem IB.set {w : World} {g : Nat} {xs : List Value} (h : IB w g xs) (i : Nat) (v : Value) : IB (w.setCell ⟨g, i, none⟩ v) g (xs.set i v) := by
  unfold IB
  rw [heap_setCell_same w g i _ _ _ h]
  simp
/-- The bits that a key asks for, in new memory. -/
def BitsP (n k : Nat) (s : List UInt8) (w : World) (e : Ending) (w' : World) : Prop :=
  ∃ g, e = .returned (.slice (some ⟨g, 0, none⟩) k k) ∧ IB w' g (encI (bitsK n k s)) ∧ w.heap.size ≤ g ∧ Keeps [] w w'
set_option maxHeartbeats 8000000 in
theorem bits_any (g n k : Nat) (A : Option Addr) (c : Nat) (bs : List UInt8) (s : List UInt8) (w : World) (h : Fm w g n k A c bs) (hn : 1 ≤ n ∧ n ≤ 1048576) (hk : 1 ≤ k ∧ k ≤ 16) (hs : s.length ≤ 140737488351232) :
    Calls Tryd.prog 11 #[.pointer (some ⟨g, 0, none⟩), .string (strB s)] w (BitsP n k s w) := by
  have H := Lib.hid h
  have HS := Lib.hid hs
  have kc := Lib.run_convert_string_bytes (P := Tryd.prog) w 9 44 5 (strB s) Tryd.underlying9 Tryd.underlying44 Tryd.underlying5
  rw [strB_size] at kc
  obtain ⟨W1, hW1⟩ : ∃ W1, W1 = Lib.bytesWorld w 5 (strB s) := ⟨_, rfl⟩
  have HK1 := Lib.hid (show Keeps [] w W1 by rw [hW1]; exact keeps_conv w _ _)
  have HR1 := Lib.hid (show RdB W1 (some ⟨w.heap.size, 0, none⟩) s by rw [hW1]; exact rd_conv w _ s)
  rw [← hW1] at kc
  obtain ⟨a, ha⟩ : ∃ a, a = keyA s := ⟨_, rfl⟩
  obtain ⟨b, hb⟩ : ∃ b, b = keyB s := ⟨_, rfl⟩
  have ha2 : a < 2147483647 := by rw [ha]; exact keyA_lt s
  have hb2 : b < 2147483647 := by rw [hb]; exact keyB_lt s
  have HA := Lib.hid (show hmore 1 s = (a : Int) by rw [ha]; exact keyA_is s)
  have HB := Lib.hid (show hmore 1 (1 :: s) = (b : Int) by rw [hb]; exact keyB_is s)
  have HBK := Lib.hid (show ∀ i, bitK n s i = (a + i * b) % n from fun i => by rw [ha, hb]; rfl)
  obtain ⟨hn1, hn2⟩ := hn
  obtain ⟨hk1, hk2⟩ := hk
  clear h hs hW1 ha hb
  go_enter Tryd.func11, Tryd.ntmps11
  go_wp2_with fail
  refine (sum_any (some ⟨w.heap.size, 0, none⟩) s _ W1 (by have := HS.out; omega) HR1.out).mono ?_
  rintro e w1 ⟨rfl, rfl⟩
  rw [HA.out]
  have hown := own_of_block (E := 5) (w := W1.alloc (.cells (encB [1]).toArray 5)) (g := W1.heap.size) (l := [1]) (heap_alloc_new _ _) (by decide)
  have HOW := Lib.hid hown
  clear hown kc
  go_wp2_with (at_builtin; refine wpList_appendS rfl (.tmp 15) (.tmp 16) 44 9 5 rfl Tryd.underlying44 Tryd.underlying9 infoB8 (some ⟨W1.heap.size, 0, none⟩) 1 [1] rfl HOW.out s rfl (by have := HS.out; simp; omega) ?_
               intro A2 c2 w2 l2 hl2 ho2 hk2 hb2
               have H2 := Lib.hid (show RdB w2 A2 l2 ∧ l2 = 1 :: s ∧ Keeps [] w w2 from ⟨ho2.rd, hl2.out, (HK1.out.alloc _).fresh hk2 (fun ad e => by cases e; exact HK1.out.size)⟩)
               clear hl2 ho2 hk2 hb2 HOW)
  refine (sum_any A2 l2 c2 w2 (by rw [H2.out.2.1]; have := HS.out; simp; omega) H2.out.1).mono ?_
  rintro e w3 ⟨rfl, rfl⟩
  rw [H2.out.2.1, HB.out]
  have HF := Lib.hid (H.out.keeps0 H2.out.2.2)
  have q1 := HF.out.cells.2.1
  have hms := make_ints w2 k (by omega)
  obtain ⟨gl, hgl⟩ : ∃ gl, gl = w2.heap.size := ⟨_, rfl⟩
  obtain ⟨W4, hW4⟩ : ∃ W4, W4 = w2.alloc (.cells (List.replicate k (.int .i64 0)).toArray 3) := ⟨_, rfl⟩
  rw [← hW4, ← hgl] at hms
  have HG := Lib.hid (show w.heap.size ≤ gl ∧ g < gl ∧ ∀ a, A = some a → a.block < gl from ⟨by rw [hgl]; exact H2.out.2.2.size, by rw [hgl]; exact HF.out.lt, by rw [hgl]; exact HF.out.2.1.lt⟩)
  have INV := Lib.hid (show ∃ xs : List Value, xs.length = k ∧ xs.take 0 = (encI (bitsK n k s)).take 0 ∧ IB W4 gl xs ∧ Fm W4 g n k A c bs ∧ Keeps [] w W4 from by
    rw [hW4, hgl]
    exact ⟨_, by simp, by simp, heap_alloc_new _ _, HF.out.keeps0 ((Keeps.refl [] w2).alloc _), H2.out.2.2.alloc _⟩)
  clear hgl hW4 H2 HF HK1 HR1
  go_wp2_with fail
  go_loopw [27] (fun si wr => ∃ i : Nat, i ≤ k ∧ si = .int .i64 i ∧ Hid (∃ xs : List Value, xs.length = k ∧ xs.take i = (encI (bitsK n k s)).take i ∧ IB wr gl xs ∧ Fm wr g n k A c bs ∧ Keeps [] w wr)) (fun si _ => k - (intOf si).toNat)
  case atStart => exact ⟨0, Nat.zero_le _, rfl, INV.out⟩
  case round =>
    clear INV q1 hms
    obtain ⟨i, hi, rfl, hinv⟩ := hrel
    by_cases hlt : i < k
    · have hik : (i : Int) < (k : Int) := by omega
      obtain ⟨xs, hxl, hxt, hib, hfm, hkp⟩ := hinv.out
      have q0 := hfm.cells.1
      obtain ⟨m, hm⟩ : ∃ m, m = i * b := ⟨_, rfl⟩
      obtain ⟨sm, hsm⟩ : ∃ z, z = a + m := ⟨_, rfl⟩
      obtain ⟨r, hr⟩ : ∃ r, r = sm % n := ⟨_, rfl⟩
      have hmb : m < 34359738368 := by
        have h1 : i * b ≤ 15 * 2147483647 := Nat.mul_le_mul (by omega) (by omega)
        omega
      have f0 : IntKind.u64.wrap (i : Int) = (i : Int) := by rw [IntKind.wrap_u64]; omega
      have f1 : IntKind.u64.wrap ((i : Int) * (b : Int)) = (m : Int) := by
        rw [show (i : Int) * (b : Int) = (m : Int) by rw [hm]; simp, IntKind.wrap_u64]; omega
      have f2 : IntKind.u64.wrap ((a : Int) + (m : Int)) = (sm : Int) := by rw [IntKind.wrap_u64]; omega
      have f3 : IntKind.u64.wrap (n : Int) = (n : Int) := by rw [IntKind.wrap_u64]; omega
      have f4 : (sm : Int).tmod (n : Int) = (r : Int) := by rw [Int.tmod_eq_emod_of_nonneg (by omega), hr]; simp
      have f5 : IntKind.i64.wrap (r : Int) = (r : Int) := by
        have : r < n := by rw [hr]; exact Nat.mod_lt _ (by omega)
        rw [IntKind.wrap_i64]; omega
      have f6 : ((n : Int) == 0) = false := by simp; omega
      have HR := Lib.hid (show bitK n s i = r by rw [HBK.out, hr, hsm, hm])
      have hil : i < xs.length := by omega
      have q2 := hib.cell i hil
      obtain ⟨v0, hv0⟩ : ∃ v, v = xs[i] := ⟨_, rfl⟩
      rw [← hv0] at q2
      have fz := frozen_of_row wr gl i _ _ hib
      have HN := Lib.hid (show ∀ w', w' = wr.setCell ⟨gl, i, none⟩ (.int .i64 (r : Int)) → ∃ xs : List Value, xs.length = k ∧ xs.take (i + 1) = (encI (bitsK n k s)).take (i + 1) ∧ IB w' gl xs ∧ Fm w' g n k A c bs ∧ Keeps [] w w' from by
        rintro w' rfl
        refine ⟨xs.set i (.int .i64 (r : Int)), by simpa using hxl, ?_, hib.set i _, hfm.keeps (S := [gl]) ((Keeps.refl [gl] wr).setCell (p := ⟨gl, i, none⟩) (.inl (by simp)) _) (by simp; have := HG.out.2.1; omega) ?_, hkp.setCell (.inr HG.out.1) _⟩
        · rw [List.take_add_one, List.take_add_one, List.getElem?_set_self hil, List.take_set_of_le (Nat.le_refl i), hxt]
          congr 1
          simp only [encI, List.getElem?_map]
          rw [List.getElem?_eq_getElem (by simpa using hlt), bitsK_get n k s i hlt, HR.out]
          rfl
        · intro ad e
          have := HG.out.2.2 ad e
          simp; omega)
      clear hm hsm hr hmb hinv hxl hxt hib hfm hkp hil hv0
      go_wp2_with (refine wpList_store_cell rfl 3 (.tmp 45) (.tmp 44) rfl gl i (.int .i64 (r : Int)) v0 rfl rfl rfl q2 fz infoI1 ?_)
      go_roundw
      case rel => exact ⟨i + 1, by omega, by go_num, HN.out _ rfl⟩
      case measure => simp [intOf]; omega
    · have hik : ¬ (i : Int) < (k : Int) := by omega
      have HKI := Lib.hid (show i = k by omega)
      clear hlt
      go_wp2_with fail
      go_ret
      obtain ⟨xs, hxl, hxt, hib, hfm, hkp⟩ := hinv.out
      have e1 : xs = encI (bitsK n k s) := by
        rw [HKI.out, List.take_of_length_le (by omega), List.take_of_length_le (by simp)] at hxt
        exact hxt
      exact ⟨gl, rfl, by rw [← e1]; exact hib, HG.out.1, hkp⟩
end Go.Proofs.YthppbefemfkccaaDoor
namespace Go.Proofs.YthppbefemfkccaaDoor
open Go.RowKit

section
variable {P : Program} {L : List Oper} {Q : Exit → Act → World → Prop} {md : Region.Mode} {S : World → Prop} {z : Nat}

/-- Whatever comes up; behind each one but number z, S holds. -/
def anyZ (P : Program) (md : Region.Mode) (ops : Array Oper) (Q : Exit → Act → World → Prop) (S : World → Prop) (z : Nat) : Nat → Array Bool → Act → World → Prop
  | 0, done, a, w => Region.ready md ops done = [] ∧ Q .normal a w
  | n + 1, done, a, w => (Region.ready md ops done = [] → Q .normal a w) ∧
      ∀ j ∈ Region.ready md ops done, wpOp P ops Q j (fun a' w' => (j ≠ z → S w') ∧ anyZ P md ops Q S z n (done.setIfInBounds j true) a' w') a w
theorem anyZ_any {ops : Array Oper} : ∀ (n : Nat) (done : Array Bool) (a : Act) (w : World), anyZ P md ops Q S z n done a w → wpAny P md ops Q n done a w
  | 0, _, _, _, k => k
  | n + 1, _, _, _, k => ⟨k.1, fun j hj => wpOp_mono (fun _ _ k' => anyZ_any n _ _ _ k'.2) (k.2 j hj)⟩
/-- Number z waits for number i, or for what waits for it, and so on. -/
def reachB (md : Region.Mode) (ops : Array Oper) : Nat → Nat → Nat → Bool
  | 0, _, _ => false
  | n + 1, z, i => match ops[z]? with
    | some o => o.after.any fun e => Region.binds md e && (e.on == i || reachB md ops n e.on i)
    | none => false
/-- What is done has all done that it waits for. -/
def ShutB (md : Region.Mode) (ops : Array Oper) (done : Array Bool) : Prop := ∀ m om, ops[m]? = some om → done.getD m false = true → ∀ e ∈ om.after, Region.binds md e = true → done.getD e.on false = true
def shutB (md : Region.Mode) (ops : Array Oper) (done : Array Bool) : Bool := (List.range ops.size).all fun m => !done.getD m false || match ops[m]? with | some om => om.after.all fun e => !Region.binds md e || done.getD e.on false | none => true
theorem ShutB.of {md : Region.Mode} {ops : Array Oper} {done : Array Bool} (h : shutB md ops done = true) : ShutB md ops done := by
  intro m om hm hd e he hb
  have hlt := (Array.getElem?_eq_some_iff.1 hm).1
  have h1 := List.all_eq_true.1 h m (List.mem_range.2 hlt)
  rw [hm, hd] at h1
  simp only [Bool.not_true, Bool.false_or] at h1
  have h2 := Array.all_eq_true_iff_forall_mem.1 h1 e he
  rw [hb] at h2
  simpa using h2
theorem ShutB.set {md : Region.Mode} {ops : Array Oper} {done : Array Bool} (h : ShutB md ops done) {j : Nat} (hj : j ∈ Region.ready md ops done) : ShutB md ops (done.setIfInBounds j true) := by
  have up : ∀ k, done.getD k false = true → (done.setIfInBounds j true).getD k false = true := by
    intro k hk
    by_cases hkj : j = k
    · subst hkj
      by_cases hlt : j < done.size
      · simp [hlt]
      · simp [Array.getElem?_eq_none (Nat.le_of_not_lt hlt)] at hk
    · rw [getD_set_ne false hkj]; exact hk
  intro m om hm hd e he hb
  obtain ⟨_, oj, hoj, hall⟩ := mem_ready.1 hj
  by_cases hmj : j = m
  · subst hmj
    rw [hoj] at hm
    obtain rfl := Option.some.inj hm
    exact up _ (hall e he hb)
  · rw [getD_set_ne false hmj] at hd
    exact up _ (h m om hm hd e he hb)
theorem reach_done {md : Region.Mode} {ops : Array Oper} {done : Array Bool} (hs : ShutB md ops done) {i : Nat} : ∀ n z, reachB md ops n z i = true → (∀ oz, ops[z]? = some oz → ∀ e ∈ oz.after, Region.binds md e = true → done.getD e.on false = true) → done.getD i false = true
  | 0, z, h, _ => by simp [reachB] at h
  | n + 1, z, h, hp => by
    unfold reachB at h
    split at h
    · rename_i o ho
      simp only [Array.any_eq_true', Bool.and_eq_true, Bool.or_eq_true, beq_iff_eq] at h
      obtain ⟨e, he, hb, h | h⟩ := h
      · rw [← h]; exact hp o ho e he hb
      · exact reach_done hs n e.on h (fun oz hoz e' he' hb' => hs e.on oz hoz (hp o ho e he hb) e' he' hb')
    · cases h
theorem not_ready {md : Region.Mode} {ops : Array Oper} {done : Array Bool} (hs : ShutB md ops done) {n z i : Nat} (h : reachB md ops n z i = true) (hi : i ∈ Region.ready md ops done) : z ∉ Region.ready md ops done := by
  intro hz
  obtain ⟨_, oz, hoz, hall⟩ := mem_ready.1 hz
  have h1 := reach_done hs n z h (fun o ho e he hb => by rw [hoz] at ho; obtain rfl := Option.some.inj ho; exact hall e he hb)
  have h0 := (mem_ready.1 hi).1
  by_cases hlt : i < done.size
  · simp [hlt] at h0 h1; rw [h0] at h1; cases h1
  · simp [Array.getElem?_eq_none (Nat.le_of_not_lt hlt)] at h1

theorem anyZ_first {ops : Array Oper} {i : Nat} {o : Oper} {v : Value} (hi : ops[i]? = some o) (hsel : ∀ (j : Nat) (o' : Oper) cs b, ops[j]? = some o' → o'.op ≠ .select cs b)
    (hQ : ∀ c a w, Q (.panic c) (a.put o.dst v) w → Q (.panic c) a w) {f : Nat} (hz : reachB md ops f z i = true) (hzi : i ≠ z) (n : Nat) :
    ∀ (done : Array Bool) (a : Act) (w : World), ShutB md ops done →
      (∀ j oj, ops[j]? = some oj → j ≠ i → done.getD j true = false → (∀ e ∈ oj.after, Region.binds md e = true → e.on ≠ i) → o.apart ops oj = true) →
      i ∈ Region.ready md ops done → YieldsIf P ops S o v a → S w →
      anyZ P md ops Q S z n (done.setIfInBounds i true) (a.put o.dst v) w → anyZ P md ops Q S z (n + 1) done a w := by
  have free : ∀ (done : Array Bool) (j : Nat), i ∈ Region.ready md ops done → j ∈ Region.ready md ops done → j ≠ i →
      ∃ oj, ops[j]? = some oj ∧ done.getD j true = false ∧ (∀ e ∈ oj.after, Region.binds md e = true → e.on ≠ i) := by
    intro done j hr hj _
    obtain ⟨hun, oj, hoj, hall⟩ := mem_ready.1 hj
    refine ⟨oj, hoj, hun, fun e he hb heq => ?_⟩
    have h1 := hall e he hb
    have h0 := (mem_ready.1 hr).1
    rw [heq] at h1
    by_cases hlt : i < done.size
    · simp [hlt] at h0 h1; rw [h0] at h1; cases h1
    · simp [Array.getElem?_eq_none (Nat.le_of_not_lt hlt)] at h1
  induction n with
  | zero =>
    intro done a w _ _ hr hy hS k
    refine ⟨fun h => by rw [h] at hr; simp at hr, fun j hj => ?_⟩
    by_cases hji : j = i
    · subst hji; exact hy.wpOp hi hS ⟨fun _ => hS, k⟩
    · have := ready_mono hj hji
      rw [k.1] at this
      simp at this
  | succ n ih =>
    intro done a w hsh hf hr hy hS k
    refine ⟨fun h => by rw [h] at hr; simp at hr, fun j hj => ?_⟩
    by_cases hji : j = i
    · subst hji; exact hy.wpOp hi hS ⟨fun _ => hS, k⟩
    · obtain ⟨oj, hoj, hun, hno⟩ := free done j hr hj hji
      have hjz : j ≠ z := fun e => not_ready hsh hz hr (e ▸ hj)
      have k1 := wpOp_putIf hoj (hf j oj hoj hji hun hno) (fun cs b => hsel i o cs b hi) (fun cs b => hsel j oj cs b hoj) hQ hy (k.2 j (ready_mono hj hji))
      refine wpOp_mono (fun a' w' k2 => ⟨k2.2.1, ih _ a' w' (hsh.set hj) ?_ (ready_mono hr (Ne.symm hji)) k2.1 (k2.2.1 hjz) (by rw [Array.setIfInBounds_comm _ _ hji]; exact k2.2.2)⟩) k1
      intro m om hm hmi hmu hmn
      refine hf m om hm hmi ?_ hmn
      by_cases hjm : j = m
      · subst hjm; exact hun
      · rwa [getD_set_ne true hjm] at hmu

theorem seqz_start {id : Nat} {a : Act} {w : World} (hm : P.follows .mixedOrders = true) (S : World → Prop) (z n : Nat) (is : List Nat) (hn : L.toArray.size = n) (hS : S w.drew)
    (h : S w.drew → Seq is L (anyZ P .any L.toArray (NoPanic Q) S z n (Array.replicate n false) a w.drew)) : (Code.region id L.toArray true).wp P Q a w :=
  wp_region_noPanic (wp_region_any hm (anyZ_any _ _ _ _ (by rw [hn]; exact h hS)))
theorem seqz_take {i : Nat} {is : List Nat} {l : List Oper} {oi : Oper} {v : Value} {fuel : Nat} {listed : Array Bool} {a : Act} {w : World} (hi : L.toArray[i]? = some oi)
    (hs : Region.noSelect L.toArray = true) (hf : Region.free md L.toArray listed i = true) (hr : (Region.ready md L.toArray listed).contains i = true) (hsh : shutB md L.toArray listed = true) (hz : reachB md L.toArray 40 z i = true) (hzi : i ≠ z)
    (hy : YieldsIf P L.toArray S oi v a) (hS : S w)
    (h : Seq is l (anyZ P md L.toArray (NoPanic Q) S z fuel (listed.setIfInBounds i true) (a.put oi.dst v) w)) : Seq (i :: is) (oi :: l) (anyZ P md L.toArray (NoPanic Q) S z (fuel + 1) listed a w) :=
  anyZ_first hi (Region.noSelect_spec hs) (fun _ _ _ h => h) hz hzi fuel listed a w (ShutB.of hsh) (Region.free_spec hi hf) (by simpa using hr) hy hS h
theorem anyZ_mono {S' : World → Prop} {ops : Array Oper} (h : ∀ x, S' x → S x) : ∀ (fuel : Nat) (listed : Array Bool) (a : Act) (w : World), anyZ P md ops Q S' z fuel listed a w → anyZ P md ops Q S z fuel listed a w
  | 0, _, _, _, k => k
  | fuel + 1, _, _, _, k => ⟨k.1, fun i hi => wpOp_mono (fun a' w' k' => ⟨fun hz => h _ (k'.1 hz), anyZ_mono h fuel _ a' w' k'.2⟩) (k.2 i hi)⟩
/-- A call that comes up alone. -/
theorem seqz_do {i : Nat} {is : List Nat} {l : List Oper} {oi : Oper} {fuel : Nat} {listed : Array Bool} {a : Act} {w : World} (hi : L.toArray[i]? = some oi) (hr : Region.ready md L.toArray listed = [i])
    (hw : Region.wanted oi (yielded L.toArray a.tmps) = true)
    (h : ∀ K : Act → World → Prop, Hid (∀ (S' : World → Prop) (a' : Act) (w' : World), (∀ x, S' x → S x) → S' w' → (S' w' → Seq is l (anyZ P md L.toArray (NoPanic Q) S' z fuel (listed.setIfInBounds i true) a' w')) → K a' w') → oi.wp P a w K (NoPanic Q)) :
    Seq (i :: is) (oi :: l) (anyZ P md L.toArray (NoPanic Q) S z (fuel + 1) listed a w) := by
  refine ⟨fun h0 => by rw [hr] at h0; simp at h0, fun j hj => ?_⟩
  rw [hr] at hj
  obtain rfl : j = i := by simpa using hj
  unfold wpOp
  simp only [hi, hw, if_true]
  exact .inl (h _ (fun S' a' w' h1 h2 h3 => ⟨fun _ => h1 _ h2, anyZ_mono h1 _ _ _ _ (h3 h2)⟩))
/-- The store, last of all. -/
theorem seqz_last {oi : Oper} {fuel : Nat} {listed : Array Bool} {a : Act} {w : World} (hi : L.toArray[z]? = some oi) (hr : Region.ready md L.toArray listed = [z])
    (hw : Region.wanted oi (yielded L.toArray a.tmps) = true) (hd : Region.ready md L.toArray (listed.setIfInBounds z true) = [])
    (h : oi.wp P a w (fun a' w' => Q .normal a' w') (NoPanic Q)) :
    Seq [z] [oi] (anyZ P md L.toArray (NoPanic Q) S z (fuel + 1) listed a w) := by
  refine ⟨fun h0 => by rw [hr] at h0; simp at h0, fun j hj => ?_⟩
  rw [hr] at hj
  obtain rfl : j = z := by simpa using hj
  unfold wpOp
  simp only [hi, hw, if_true]
  refine .inl (Oper.wp_mono (fun a' w' k => ⟨fun hne => absurd rfl hne, ?_⟩) h)
  cases fuel with
  | zero => exact ⟨hd, NoPanic.normal k⟩
  | succ m => exact ⟨fun _ => NoPanic.normal k, by rw [hd]; simp⟩
end
end Go.Proofs.YthppbefemfkccaaDoor
namespace Go.Proofs.YthppbefemfkccaaDoor
open Go.RowKit
attribute [local irreducible] bitsK orAll

theorem u8_or_any (x y : UInt8) : bits .or .u8 (x.toNat : Int) (y.toNat : Int) = ((x ||| y).toNat : Int) := by
  show IntKind.u8.wrap ((BitVec.ofInt 8 (x.toNat : Int) ||| BitVec.ofInt 8 (y.toNat : Int)).toNat : Int) = _
  have e : ∀ a : Nat, a < 256 → (BitVec.ofInt 8 (a : Int)).toNat = a := fun a ha => by
    rw [BitVec.ofInt_natCast, BitVec.toNat_ofNat]; exact Nat.mod_eq_of_lt (by omega)
  have hx := x.toNat_lt
  have hy := y.toNat_lt
  have h2 : x.toNat ||| y.toNat < 2 ^ 8 := Nat.or_lt_two_pow (by omega) (by omega)
  rw [BitVec.toNat_or, e _ (by omega), e _ (by omega), IntKind.wrap_u8, UInt8.toNat_or]
  omega
theorem encI_get (l : List Nat) (i : Nat) (h : i < l.length) : (encI l)[i]'(by simpa using h) = .int .i64 (l[i] : Int) := by simp [encI]
/-- Stored: a bit more. -/
theorem Fm.set {w : World} {g n k ga c : Nat} {bs : List UInt8} (h : Fm w g n k (some ⟨ga, 0, none⟩) c bs) (j : Nat) (b : UInt8) (hj : j < bs.length) : Fm (w.setCell ⟨ga, j, none⟩ (.int .u8 (b.toNat : Int))) g n k (some ⟨ga, 0, none⟩) c (bs.set j b) := by
  have hne : ga ≠ g := h.2.2 _ rfl
  refine ⟨?_, h.2.1.set j b hj, h.2.2⟩
  rw [heap_setCell_other _ _ _ _ (show g ≠ (⟨ga, j, none⟩ : Addr).block from fun e => hne e.symm), List.length_set]
  exact h.1
theorem pow8 (r : Nat) (hr : r < 8) : (2 : Int) ^ r = ((UInt8.ofNat (2 ^ r)).toNat : Int) ∧ (2 : Int) ^ r < 256 ∧ (0 : Int) ≤ 2 ^ r := by
  have : r = 0 ∨ r = 1 ∨ r = 2 ∨ r = 3 ∨ r = 4 ∨ r = 5 ∨ r = 6 ∨ r = 7 := by omega
  rcases this with rfl | rfl | rfl | rfl | rfl | rfl | rfl | rfl <;> exact ⟨rfl, by decide, by decide⟩

/-- A key laid in. -/
def AddP (g n k : Nat) (A : Option Addr) (c : Nat) (bs : List UInt8) (w : World) (e : Ending) (w' : World) : Prop := e = .returned (.tuple #[]) ∧ Fm w' g n k A c bs ∧ Keeps (blk A) w w'
set_option maxHeartbeats 8000000 in
theorem add_any (g n k : Nat) (A : Option Addr) (c : Nat) (bs : List UInt8) (s : List UInt8) (w : World) (h : Fm w g n k A c bs) (hn : 1 ≤ n ∧ n ≤ 1048576) (hk : 1 ≤ k ∧ k ≤ 16) (hs : s.length ≤ 140737488351232) (hb : n ≤ 8 * bs.length) :
    Calls Tryd.prog 19 #[.pointer (some ⟨g, 0, none⟩), .string (strB s)] w (AddP g n k A c (orAll bs (bitsK n k s)) w) := by
  have H := Lib.hid h
  have HN := Lib.hid (show ∀ j ∈ bitsK n k s, j < n from fun j hj => bitsK_lt (by omega) hj)
  have HBL := Lib.hid hb
  have HLK := Lib.hid (bitsK_len n k s)
  have HBITS := Lib.hid (bits_any g n k A c bs s w h hn hk hs)
  have hA := Lib.hid (fun a ha => (h.2.1.lt a ha : a.block < w.heap.size))
  obtain ⟨L, hL⟩ : ∃ L, L = bitsK n k s := ⟨_, rfl⟩
  unfold BitsP at HBITS
  rw [← hL] at HN HLK HBITS ⊢
  obtain ⟨hn1, hn2⟩ := hn
  obtain ⟨hk1, hk2⟩ := hk
  clear h hs hb hL
  go_enter Tryd.func19, Tryd.ntmps19
  go_wp2_with fail
  refine HBITS.out.mono ?_
  rintro e w1 ⟨gl, rfl, hib, hgl, hk1'⟩
  have INV := Lib.hid (show Fm w1 g n k A c (orAll bs (L.take 0)) ∧ IB w1 gl (encI L) ∧ Keeps (blk A) w w1 from ⟨by unfold orAll; exact H.out.keeps0 hk1', hib, hk1'.mono (by simp)⟩)
  have HGL := Lib.hid hgl
  clear hib hgl hk1' HBITS
  go_wp2_with fail
  go_loopw [10] (fun si wr => ∃ i : Nat, i ≤ k ∧ si = .int .i64 i ∧ Hid (Fm wr g n k A c (orAll bs (L.take i)) ∧ IB wr gl (encI L) ∧ Keeps (blk A) w wr)) (fun si _ => k - (intOf si).toNat)
  case atStart => exact ⟨0, Nat.zero_le _, rfl, INV.out⟩
  case round =>
    clear INV
    obtain ⟨i, hi, rfl, hinv⟩ := hrel
    by_cases hlt : i < k
    · have hik : (i : Int) < (k : Int) := by omega
      have HIL := Lib.hid (show i < L.length by rw [HLK.out]; exact hlt)
      obtain ⟨j, hj⟩ : ∃ j, j = L[i]'(HIL.out) := ⟨_, rfl⟩
      have hjn : j < n := by rw [hj]; exact HN.out _ (List.getElem_mem _)
      obtain ⟨q, hq⟩ : ∃ q, q = j / 8 := ⟨_, rfl⟩
      obtain ⟨r, hr⟩ : ∃ r, r = j % 8 := ⟨_, rfl⟩
      obtain ⟨B, hB⟩ : ∃ B, B = orAll bs (L.take i) := ⟨_, rfl⟩
      have HBN := Lib.hid (show B.length = bs.length by rw [hB, orAll_len])
      have hqb : q < B.length := by have := HBN.out; have := HBL.out; omega
      have HST := Lib.hid (show orAll bs (L.take (i + 1)) = B.set q (B.getD q 0 ||| UInt8.ofNat (2 ^ r)) by rw [orAll_snoc bs L i HIL.out, ← hB, ← hj, hq, hr]; rfl)
      rw [← hB] at hinv
      obtain ⟨ga, rfl, hcell, hfr⟩ := hinv.out.1.2.1.at0 (by omega)
      obtain ⟨x, hx⟩ : ∃ x, x = B[q] := ⟨_, rfl⟩
      have qx := hcell q hqb
      rw [← hx] at qx
      have HX := Lib.hid (show B.getD q 0 = x by rw [hx, List.getD_eq_getElem?_getD, List.getElem?_eq_getElem hqb]; rfl)
      have q1 := hinv.out.2.1.cell i (by simpa using HIL.out)
      rw [encI_get L i HIL.out, ← hj] at q1
      have q2 := hinv.out.1.cells.2.2
      have p8 := pow8 r (by omega)
      obtain ⟨p, hp⟩ : ∃ p, p = UInt8.ofNat (2 ^ r) := ⟨_, rfl⟩
      rw [← hp] at p8
      have f1 : (j : Int).tdiv 8 = (q : Int) := by rw [Int.tdiv_eq_ediv_of_nonneg (by omega)]; omega
      have f2 : (j : Int).tmod 8 = (r : Int) := by rw [Int.tmod_eq_emod_of_nonneg (by omega)]; omega
      have f3 : IntKind.i64.wrap (q : Int) = (q : Int) := by rw [IntKind.wrap_i64]; omega
      have f4 : IntKind.u8.wrap ((2 : Int) ^ r) = (p.toNat : Int) := by rw [IntKind.wrap_u8, ← p8.1]; omega
      have f6 := u8_or_any x p
      have hr8 : (r : Int) < 8 := by omega
      have f4' : (2 : Int) ^ r % 256 = (p.toNat : Int) := by rw [← p8.1]; omega
      have hqB : (q : Int) < ((B.length : Nat) : Int) := by omega
      obtain ⟨y, hy⟩ : ∃ y, y = x ||| p := ⟨_, rfl⟩
      rw [← hy] at f6
      have HY := Lib.hid (show orAll bs (L.take (i + 1)) = B.set q y by rw [HST.out, HX.out, hy, hp])
      have HQ := Lib.hid hqb
      have fz := hfr q
      have HS := Lib.hid (And.intro q2 qx)
      clear hj hjn hq hr hB hcell hfr hx hp p8 hy hqb HST
      go_wp2_with fail
      have qa : ∀ z : World, (z.cell? ⟨g, 2, none⟩ = some (.slice (some ⟨ga, 0, none⟩) B.length c) ∧ z.cell? ⟨ga, q, none⟩ = some (.int .u8 (x.toNat : Int))) → z.cell? ⟨g, 2, none⟩ = some (.slice (some ⟨ga, 0, none⟩) B.length c) := fun z hz => hz.1
      have qb : ∀ z : World, (z.cell? ⟨g, 2, none⟩ = some (.slice (some ⟨ga, 0, none⟩) B.length c) ∧ z.cell? ⟨ga, q, none⟩ = some (.int .u8 (x.toNat : Int))) → z.cell? ⟨ga, q, none⟩ = some (.int .u8 (x.toNat : Int)) := fun z hz => hz.2
      clear q1 q2 qx
      refine seqz_start (by kernel_rfl) (fun z => z.cell? ⟨g, 2, none⟩ = some (.slice (some ⟨ga, 0, none⟩) B.length c) ∧ z.cell? ⟨ga, q, none⟩ = some (.int .u8 (x.toNat : Int))) 13 14 [0, 1, 2, 3, 4, 5, 6, 7, 8, 9, 10, 11, 12, 13] rfl (HS.out) (fun hS => ?_)
      refine seqz_take (v := ?_) rfl (by kernel_rfl) (by kernel_rfl) (by kernel_rfl) (by kernel_rfl) (by kernel_rfl) (by decide) (Or.inl ⟨by rfl, fun w' hSw => ?_⟩) (by assumption) ?_
      rotate_left
      · go_simp
        with_reducible rfl
      simp only [Act.put, List.setIfInBounds_toArray, List.set_cons_zero, List.set_cons_succ]
      refine seqz_take (v := ?_) rfl (by kernel_rfl) (by kernel_rfl) (by kernel_rfl) (by kernel_rfl) (by kernel_rfl) (by decide) (Or.inl ⟨by rfl, fun w' hSw => ?_⟩) (by assumption) ?_
      rotate_left
      · go_simp
        with_reducible rfl
      simp only [Act.put, List.setIfInBounds_toArray, List.set_cons_zero, List.set_cons_succ]
      refine seqz_take (v := ?_) rfl (by kernel_rfl) (by kernel_rfl) (by kernel_rfl) (by kernel_rfl) (by kernel_rfl) (by decide) (Or.inl ⟨by rfl, fun w' hSw => ?_⟩) (by assumption) ?_
      rotate_left
      · go_simp
        with_reducible rfl
      simp only [Act.put, List.setIfInBounds_toArray, List.set_cons_zero, List.set_cons_succ]
      refine seqz_take (v := ?_) rfl (by kernel_rfl) (by kernel_rfl) (by kernel_rfl) (by kernel_rfl) (by kernel_rfl) (by decide) (Or.inl ⟨by rfl, fun w' hSw => ?_⟩) (by assumption) ?_
      rotate_left
      · go_simp
        with_reducible rfl
      simp only [Act.put, List.setIfInBounds_toArray, List.set_cons_zero, List.set_cons_succ]
      refine seqz_take (v := ?_) rfl (by kernel_rfl) (by kernel_rfl) (by kernel_rfl) (by kernel_rfl) (by kernel_rfl) (by decide) (Or.inl ⟨by rfl, fun w' hSw => ?_⟩) (by assumption) ?_
      rotate_left
      · go_simp
        with_reducible rfl
      simp only [Act.put, List.setIfInBounds_toArray, List.set_cons_zero, List.set_cons_succ]
      refine seqz_take (v := ?_) rfl (by kernel_rfl) (by kernel_rfl) (by kernel_rfl) (by kernel_rfl) (by kernel_rfl) (by decide) (Or.inl ⟨by rfl, fun w' hSw => ?_⟩) (by assumption) ?_
      rotate_left
      · go_simp
        with_reducible rfl
      simp only [Act.put, List.setIfInBounds_toArray, List.set_cons_zero, List.set_cons_succ]
      refine seqz_take (v := ?_) rfl (by kernel_rfl) (by kernel_rfl) (by kernel_rfl) (by kernel_rfl) (by kernel_rfl) (by decide) (Or.inl ⟨by rfl, fun w' hSw => ?_⟩) (by assumption) ?_
      rotate_left
      · go_simp
        with_reducible rfl
      simp only [Act.put, List.setIfInBounds_toArray, List.set_cons_zero, List.set_cons_succ]
      refine seqz_take (v := ?_) rfl (by kernel_rfl) (by kernel_rfl) (by kernel_rfl) (by kernel_rfl) (by kernel_rfl) (by decide) (Or.inl ⟨by rfl, fun w' hSw => ?_⟩) (by assumption) ?_
      rotate_left
      · go_simp
        with_reducible rfl
      simp only [Act.put, List.setIfInBounds_toArray, List.set_cons_zero, List.set_cons_succ]
      refine seqz_take (v := ?_) rfl (by kernel_rfl) (by kernel_rfl) (by kernel_rfl) (by kernel_rfl) (by kernel_rfl) (by decide) (Or.inl ⟨by rfl, fun w' hSw => ?_⟩) (by assumption) ?_
      rotate_left
      · go_simp
        with_reducible rfl
      simp only [Act.put, List.setIfInBounds_toArray, List.set_cons_zero, List.set_cons_succ]
      refine seqz_take (v := ?_) rfl (by kernel_rfl) (by kernel_rfl) (by kernel_rfl) (by kernel_rfl) (by kernel_rfl) (by decide) (Or.inl ⟨by rfl, fun w' hSw => ?_⟩) (by assumption) ?_
      rotate_left
      · go_simp
        with_reducible rfl
      simp only [Act.put, List.setIfInBounds_toArray, List.set_cons_zero, List.set_cons_succ]
      refine seqz_take (v := ?_) rfl (by kernel_rfl) (by kernel_rfl) (by kernel_rfl) (by kernel_rfl) (by kernel_rfl) (by decide) (Or.inl ⟨by rfl, fun w' hSw => ?_⟩) (by assumption) ?_
      rotate_left
      · go_simp
        with_reducible rfl
      simp only [Act.put, List.setIfInBounds_toArray, List.set_cons_zero, List.set_cons_succ]
      refine seqz_take (v := ?_) rfl (by kernel_rfl) (by kernel_rfl) (by kernel_rfl) (by kernel_rfl) (by kernel_rfl) (by decide) (Or.inl ⟨by rfl, fun w' hSw => ?_⟩) (by assumption) ?_
      rotate_left
      · go_simp
        with_reducible rfl
      simp only [Act.put, List.setIfInBounds_toArray, List.set_cons_zero, List.set_cons_succ]
      refine seqz_take (v := ?_) rfl (by kernel_rfl) (by kernel_rfl) (by kernel_rfl) (by kernel_rfl) (by kernel_rfl) (by decide) (Or.inl ⟨by rfl, fun w' hSw => ?_⟩) (by assumption) ?_
      rotate_left
      · go_simp
        with_reducible rfl
      simp only [Act.put, List.setIfInBounds_toArray, List.set_cons_zero, List.set_cons_succ]
      refine seqz_last rfl (by kernel_rfl) (by rfl) (by kernel_rfl) ?_
      all_goals skip
      have HI := Lib.hid (show Fm wr.drew g n k (some ⟨ga, 0, none⟩) c B ∧ IB wr.drew gl (encI L) ∧ Keeps (blk (some ⟨ga, 0, none⟩)) w wr.drew ∧ wr.drew.cell? ⟨ga, q, none⟩ = some (.int .u8 (x.toNat : Int)) ∧ wr.drew.frozen? ⟨ga, q, none⟩ = false from ⟨hinv.out.1, hinv.out.2.1, hinv.out.2.2.drew, HS.out.2, fz⟩)
      clear hinv qa qb hS fz HS
      generalize wr.drew = V at HI ⊢
      have qc := HI.out.2.2.2.1
      have fc := HI.out.2.2.2.2
      have HGA := Lib.hid (show ga < gl from by have := hA.out _ rfl; have := HGL.out; simp at *; omega)
      have HV := Lib.hid (show Fm (V.setCell ⟨ga, q, none⟩ (.int .u8 (y.toNat : Int))) g n k (some ⟨ga, 0, none⟩) c (B.set q y) ∧ IB (V.setCell ⟨ga, q, none⟩ (.int .u8 (y.toNat : Int))) gl (encI L) ∧ Keeps (blk (some ⟨ga, 0, none⟩)) w (V.setCell ⟨ga, q, none⟩ (.int .u8 (y.toNat : Int))) from
        ⟨HI.out.1.set q y HQ.out, HI.out.2.1.keeps (S := [ga]) ((Keeps.refl [ga] V).setCell (p := ⟨ga, q, none⟩) (.inl (by simp)) _) (by have := HGA.out; simp; omega), HI.out.2.2.1.setCell (.inl (by simp [blk])) _⟩)
      clear HI
      go_wp2_with fail
      go_roundw
      case rel => exact ⟨i + 1, by omega, by go_num, by rw [HY.out]; exact HV.out⟩
      case measure => simp [intOf]; omega
    · have hik : ¬ (i : Int) < (k : Int) := by omega
      have HKI := Lib.hid (show i = L.length by rw [HLK.out]; omega)
      clear hlt
      go_wp2_with fail
      go_end0
      have h2 := hinv.out
      rw [HKI.out, List.take_length] at h2
      exact ⟨rfl, h2.1, h2.2.2⟩
end Go.Proofs.YthppbefemfkccaaDoor
