/- A sum as text: a contract. -/
import Derived.Test.YtomleanoofoejaaDoorKecOut
import Derived.Test.YtomleanoofoejaaDoorIdx
namespace Go.Proofs.YtomleanoofoejaaDoor
open Go.RowKit
def digK : List UInt8 := [48, 49, 50, 51, 52, 53, 54, 55, 56, 57, 97, 98, 99, 100, 101, 102]
def hexB (b : UInt8) : List UInt8 := [digK.getD (b.toNat / 16) 0, digK.getD (b.toNat % 16) 0]
def hexAll (l : List UInt8) : List UInt8 := l.flatMap hexB
theorem hexAll_snoc (l : List UInt8) (k : Nat) (h : k < l.length) : hexAll (l.take (k + 1)) = hexAll (l.take k) ++ hexB l[k] := by
  unfold hexAll
  rw [List.take_add_one, List.getElem?_eq_getElem h, List.flatMap_append]; simp
theorem hexAll_len (l : List UInt8) : (hexAll l).length = 2 * l.length := by
  induction l with
  | nil => rfl
  | cons a l ih => simp [hexAll, hexB] at ih ⊢; omega

theorem and15 (b : UInt8) : bits .and .u8 (b.toNat : Int) 15 = ((b.toNat % 16 : Nat) : Int) := by
  show IntKind.u8.wrap ((BitVec.ofInt 8 (b.toNat : Int) &&& BitVec.ofInt 8 ((15 : Nat) : Int)).toNat : Int) = _
  have h : (BitVec.ofInt 8 (b.toNat : Int)).toNat = b.toNat := by
    rw [BitVec.ofInt_natCast, BitVec.toNat_ofNat]
    exact Nat.mod_eq_of_lt b.toNat_lt
  rw [BitVec.toNat_and, h, BitVec.ofInt_natCast, BitVec.toNat_ofNat, show 15 % 2 ^ 8 = 2 ^ 4 - 1 by decide, Nat.and_two_pow_sub_one_eq_mod, IntKind.wrap_u8]
  omega
theorem infoB1t : (Tryd.prog.info? 5).map (·.size) = some 1 := by kernel_rfl
set_option maxHeartbeats 2000000 in
theorem text_any (l : List UInt8) (w : World) (hl : l.length = 32) :
    Calls Tryd.prog 20 #[.agg (encB l).toArray] w fun e w' => e = .returned (.string (strB (hexAll l))) ∧ Keeps [] w w' := by
  have HI2 := Lib.hid (show (Tryd.prog.info? 25).map (·.size) = some (encB l).toArray.size by rw [List.size_toArray, length_encB, hl]; kernel_rfl)
  obtain ⟨cs, hcs⟩ : ∃ cs, cs = (encB l).toArray := ⟨_, rfl⟩
  rw [← hcs] at HI2 ⊢
  have HCS := Lib.hid hcs
  have HL := Lib.hid hl
  clear hcs hl
  go_enter Tryd.func20, Tryd.ntmps20
  go_wp2_with (refine wpList_load_row rfl 25 (.tmp 1) rfl w.heap.size rfl 25 cs (0, 0) _ (heap_alloc_new _ _) Tryd.underlying25 rfl HI2.out ?_)
  have INV := Lib.hid (show OwnB 5 (w.alloc (.cells cs 25)) none 0 (hexAll (l.take 0)) ∧ Keeps [] w (w.alloc (.cells cs 25)) from ⟨OwnB.nil _ _, (Keeps.refl [] w).alloc _⟩)
  go_loopw [3, 7] (fun s i wr => ∃ (k : Nat) (A : Option Addr) (c : Nat) (o : List UInt8), k ≤ 32 ∧ i = .int .i64 k ∧ s = .slice A o.length c ∧ Hid (o = hexAll (l.take k)) ∧ Hid (OwnB 5 wr A c o ∧ Keeps [] w wr ∧ (∀ a, A = some a → w.heap.size ≤ a.block))) (fun _ i _ => 32 - (intOf i).toNat)
  case atStart => exact ⟨0, none, 0, [], by omega, rfl, rfl, rfl, INV.out.1, INV.out.2, by simp⟩
  case round =>
    clear INV
    obtain ⟨k, A, c, o, hk, rfl, rfl, ho, hinv⟩ := hrel
    by_cases hlt : k < 32
    · have hi : (k : Int) < 32 := by omega
      have HLT := Lib.hid (show k < l.length by rw [HL.out]; exact hlt)
      obtain ⟨b, hb⟩ : ∃ b, b = l[k]'(HLT.out) := ⟨_, rfl⟩
      have hx : cs[k]? = some (.int .u8 (b.toNat : Int)) := by rw [HCS.out, List.getElem?_toArray, List.getElem?_eq_getElem (by simpa using HLT.out), encB_get l k HLT.out, hb]
      have HB := Lib.hid hb
      clear hb
      go_wp2_with (refine wpList_idxA rfl 25 (.tmp 6) (.tmp 7) rfl Tryd.underlying25 Tryd.underlying5 rfl infoB1t cs .i64 k rfl rfl hlt _ hx ?_)
      have q1 : bits .and .u8 (b.toNat : Int) 15 = ((b.toNat % 16 : Nat) : Int) := and15 b
      have HB1 := Lib.hid (show b.toNat / 16 < digK.length by have := b.toNat_lt; show b.toNat / 16 < 16; omega)
      have HB2 := Lib.hid (show b.toNat % 16 < digK.length from Nat.mod_lt _ (by decide))
      have HD := Lib.hid (And.intro rfl rfl : hexB b = [digK.getD (b.toNat / 16) 0, digK.getD (b.toNat % 16) 0] ∧ True = True)
      obtain ⟨d1, hd1⟩ : ∃ d, d = digK.getD (b.toNat / 16) 0 := ⟨_, rfl⟩
      obtain ⟨d2, hd2⟩ : ∃ d, d = digK.getD (b.toNat % 16) 0 := ⟨_, rfl⟩
      rw [← hd1, ← hd2] at HD
      have HOL := Lib.hid (show o.length ≤ 64 by rw [ho.out, hexAll_len, List.length_take]; omega)
      have HE1 := Lib.hid hd1
      have HE2 := Lib.hid hd2
      clear hd1 hd2 hx
      refine seq_start (by kernel_rfl) (fun _ => True) 10 [0, 1, 2, 3, 4, 5, 6, 7, 8, 9] rfl (trivial) (fun hS => ?_)
      have HI := Lib.hid (show OwnB 5 wr.drew A c o ∧ Keeps [] w wr.drew ∧ (∀ a, A = some a → w.heap.size ≤ a.block) from ⟨hinv.out.1.drew, hinv.out.2.1.drew, hinv.out.2.2⟩)
      clear hinv
      generalize wr.drew = V at HI hS ⊢
      refine seq_take (v := ?_) rfl (by kernel_rfl) (by kernel_rfl) (by kernel_rfl) (Or.inl ⟨by rfl, fun w' hSw => ?_⟩) (by assumption) ?_
      rotate_left
      · go_simp
        with_reducible rfl
      simp only [Act.put, List.setIfInBounds_toArray, List.set_cons_zero, List.set_cons_succ]
      refine seq_take (v := ?_) rfl (by kernel_rfl) (by kernel_rfl) (by kernel_rfl) (Or.inl ⟨by rfl, fun w' hSw => ?_⟩) (by assumption) ?_
      rotate_left
      · go_simp
        with_reducible rfl
      simp only [Act.put, List.setIfInBounds_toArray, List.set_cons_zero, List.set_cons_succ]
      refine seq_take (v := ?_) rfl (by kernel_rfl) (by kernel_rfl) (by kernel_rfl) (Or.inl ⟨by rfl, fun w' hSw => ?_⟩) (by assumption) ?_
      rotate_left
      · go_simp
        with_reducible rfl
      simp only [Act.put, List.setIfInBounds_toArray, List.set_cons_zero, List.set_cons_succ]
      refine seq_take (v := .int .u8 (d1.toNat : Int)) rfl (by kernel_rfl) (by kernel_rfl) (by kernel_rfl) ?_ (by assumption) ?_
      · exact yieldsIf_idxS (by rfl) 9 _ (.tmp 12) (by rfl) Tryd.underlying9 digK .u8 (b.toNat / 16) (by rfl) (by rfl) HB1.out _ (by rw [HE1.out])
      simp only [Act.put, List.setIfInBounds_toArray, List.set_cons_zero, List.set_cons_succ]
      refine seq_take (v := ?_) rfl (by kernel_rfl) (by kernel_rfl) (by kernel_rfl) (Or.inl ⟨by rfl, fun w' hSw => ?_⟩) (by assumption) ?_
      rotate_left
      · go_simp
        with_reducible rfl
      simp only [Act.put, List.setIfInBounds_toArray, List.set_cons_zero, List.set_cons_succ]
      refine seq_take (v := ?_) rfl (by kernel_rfl) (by kernel_rfl) (by kernel_rfl) (Or.inl ⟨by rfl, fun w' hSw => ?_⟩) (by assumption) ?_
      rotate_left
      · go_simp
        with_reducible rfl
      simp only [Act.put, List.setIfInBounds_toArray, List.set_cons_zero, List.set_cons_succ]
      refine seq_take (v := .int .u8 (d2.toNat : Int)) rfl (by kernel_rfl) (by kernel_rfl) (by kernel_rfl) ?_ (by assumption) ?_
      · exact yieldsIf_idxS (by rfl) 9 _ (.tmp 15) (by rfl) Tryd.underlying9 digK .u8 (b.toNat % 16) (by rfl) (by rfl) HB2.out _ (by rw [HE2.out])
      simp only [Act.put, List.setIfInBounds_toArray, List.set_cons_zero, List.set_cons_succ]
      refine seq_do rfl (by kernel_rfl) (by rfl) (fun K hK => ?_)
      go_simp
      refine hK.out (fun _ => True) _ _ (fun _ h => h) trivial (fun _ => ?_)
      refine seq_do rfl (by kernel_rfl) (by rfl) (fun K hK => ?_)
      refine op_appendB (.tmp 10) (.tmp 17) 35 5 rfl Tryd.underlying35 infoBy A c o rfl (HI.out.1.alloc _) (some ⟨V.heap.size, 0, none⟩) 2 [d1, d2] rfl (RdB.lit V [d1, d2] 5 (0, 0)) (by have := HOL.out; simp; omega) ?_
      intro A3 c3 w3 o3 ho3 hown3 hk3 hb3
      have HO3 := Lib.hid hown3
      have HK3 := Lib.hid hk3
      have HB3 := Lib.hid hb3
      clear hown3 hk3 hb3
      refine hK.out (fun _ => True) _ _ (fun _ h => h) trivial (fun _ => ?_)
      refine seq_take (v := ?_) rfl (by kernel_rfl) (by kernel_rfl) (by kernel_rfl) (Or.inl ⟨by rfl, fun w' hSw => ?_⟩) (by assumption) ?_
      rotate_left
      · go_simp
        with_reducible rfl
      simp only [Act.put, List.setIfInBounds_toArray, List.set_cons_zero, List.set_cons_succ]
      refine seq_done (by kernel_rfl) ?_
      all_goals skip
      have HA1 := Lib.hid (show Keeps (blk A) V w3 from ((Keeps.refl _ V).alloc _).trans HK3.out (fun t ht => .inl ht))
      go_wp2_with fail
      go_roundw
      case rel =>
        refine ⟨k + 1, A3, c3, o3, by omega, by go_num, rfl, ?_, HO3.out, HI.out.2.1.fresh HA1.out HI.out.2.2, ?_⟩
        · show _ = _
          rw [ho3.out, ho.out, hexAll_snoc l k HLT.out, ← HB.out, HD.out.1]
        · intro a ha
          rcases HB3.out a ha with h | h
          · obtain ⟨a1, e1, e2⟩ := mem_blk.1 h
            have := HI.out.2.2 a1 e1
            omega
          · have := HI.out.2.1.size
            simp at h
            omega
      case measure => simp [intOf]; omega
    · have hi : ¬ (k : Int) < 32 := by omega
      have HK32 := Lib.hid (show k = l.length by rw [HL.out]; omega)
      clear hlt
      have kc := run_conv_str (P := Tryd.prog) wr Tryd.underlying35 Tryd.underlying5 Tryd.underlying9 hinv.out.1.rd c
      go_wp2_with fail
      go_ret
      refine ⟨?_, hinv.out.2.1⟩
      rw [ho.out, HK32.out, List.take_length]; rfl
end Go.Proofs.YtomleanoofoejaaDoor
