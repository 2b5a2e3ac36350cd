/- The law on parts: called with any list of bytes it answers true. -/
import Derived.Test.YtccacdfkdkiaeaaDoorKecSumsC
import Derived.Test.YtccacdfkdkiaeaaDoorKinds
import Derived.Test.YtccacdfkdkiaeaaDoorBulk
namespace Go.Proofs.YtccacdfkdkiaeaaDoor
open Go.RowKit
attribute [local irreducible] turnK outK absAll hexAll

abbrev KBs : K := K.slice 1 (K.int .u8)
abbrev Bs : Type := (Option Addr × Nat) × List Int
def Bs.b (x : Bs) : List UInt8 := toB x.2
/-- What is known of bytes that came in. -/
structure Bs.fine (w : World) (x : Bs) : Prop where
  cells : KBs.cells x = [.slice x.1.1 x.b.length x.1.2]
  rd : RdB w x.1.1 x.b
  lt : ∀ a, x.1.1 = some a → 0 < x.b.length → a.block < w.heap.size
theorem Bs.fine_of {w : World} {x : Bs} (h : KBs.ok w x) : x.fine w := by
  obtain ⟨⟨A, c⟩, xs⟩ := x
  have hb := RdB.of_k h
  refine ⟨?_, hb.1, fun a ha hl => Rd.lt hb.1 (by rw [length_encB]; exact hl) ha⟩
  show [Value.slice A (List.length xs) c] = [Value.slice A (toB xs).length c]
  rw [length_toB]

set_option maxRecDepth 100000 in
set_option maxHeartbeats 4000000 in
theorem parts_any (A : Option Addr) (c : Nat) (xs : List Bs) (w : World) (hc : Con w) (hok : (K.slice 24 KBs).ok w ((A, c), xs)) :
    Calls Tryd.prog 4 #[.slice A xs.length c] w fun e w' => e = .returned (.bool true) ∧ Below w.heap.size w w' := by
  have HC := Lib.hid hc
  have HX := Lib.hid (show ∀ x ∈ xs, Bs.fine w x from fun x hx => Bs.fine_of (hok.2.2.2 x hx))
  have HRD := Lib.hid (show Rd w A xs.length 1 (xs.flatMap KBs.cells) from hok.2.2.1)
  have HLN := Lib.hid (show xs.length ≤ 140737488351232 by have h1 : xs.length * 24 ≤ 140737488351232 := hok.2.1; omega)
  clear hc hok
  obtain ⟨z, hz⟩ : ∃ z : List UInt8, z = List.replicate 32 0 := ⟨_, rfl⟩
  have HZ := Lib.hid (show (#[.int .u8 0, .int .u8 0, .int .u8 0, .int .u8 0, .int .u8 0, .int .u8 0, .int .u8 0, .int .u8 0, .int .u8 0, .int .u8 0, .int .u8 0, .int .u8 0, .int .u8 0, .int .u8 0, .int .u8 0, .int .u8 0, .int .u8 0, .int .u8 0, .int .u8 0, .int .u8 0, .int .u8 0, .int .u8 0, .int .u8 0, .int .u8 0, .int .u8 0, .int .u8 0, .int .u8 0, .int .u8 0, .int .u8 0, .int .u8 0, .int .u8 0, .int .u8 0] : Array Value) = (encB z).toArray by rw [hz]; exact zero32k)
  have HZR := Lib.hid hz
  have fz := fun v => ne_print v z (by rw [hz, List.length_replicate])
  have gz := fun y1 y2 v => run_eqGuard_arr (P := Tryd.prog) v guard_pr .neq y1 y2 (encB z).toArray (encB z).toArray
  rw [← HZ.out] at fz gz
  clear hz
  go_enter Tryd.func4, Tryd.ntmps4
  go_wp2_with fail
  refine (write_nil none [] 0 w).mono ?_
  rintro e w' ⟨rfl, rfl⟩
  go_wp2_with fail
  refine (stsum_nil w).mono ?_
  rintro e w1 ⟨rfl, hk1⟩
  rw [← HZR.out, ← HZ.out]
  have HK1 := Lib.hid hk1
  clear hk1
  go_wp2_with fail
  refine (new_any w1).mono ?_
  rintro e w2 ⟨g, rfl, hg, h2, hk2⟩
  have HG := Lib.hid (show w.heap.size ≤ g ∧ g ≠ 0 from ⟨Nat.le_trans HK1.out.size hg, by have := HC.out.lt; have := HK1.out.size; omega⟩)
  have INV := Lib.hid (show StA w2 g (absAll beginK []) ∧ OwnB 5 w2 none 0 [] ∧ Keeps [] w w2 ∧ (∀ a, (none : Option Addr) = some a → g < a.block) from ⟨by rw [absAll_nil]; exact h2, OwnB.nil _ _, HK1.out.trans hk2 (by simp), by simp⟩)
  clear h2 hk2 hg HK1 fz gz HZ
  go_wp2_with fail
  go_loopw [5, 6] (fun al i wr => ∃ (k : Nat) (A5 : Option Addr) (c5 : Nat) (all : List UInt8), k ≤ xs.length ∧ k ≤ 12 ∧ all.length ≤ 2000 ∧ i = .int .i64 k ∧ al = .slice A5 all.length c5 ∧ Hid (StA wr g (absAll beginK all) ∧ OwnB 5 wr A5 c5 all ∧ Keeps [] w wr ∧ (∀ a, A5 = some a → g < a.block))) (fun _ i _ => 12 - (intOf i).toNat)
  case atStart => exact ⟨0, none, 0, [], Nat.zero_le _, by omega, by simp, rfl, rfl, INV.out⟩
  case round =>
    clear INV
    obtain ⟨k, A5, c5, all, hk, hk12, hal, rfl, rfl, hinv⟩ := hrel
    by_cases hgo : k < xs.length ∧ k < 12 ∧ all.length < 1200
    · obtain ⟨g1, g2, g3⟩ := hgo
      have i1 : (k : Int) < (xs.length : Int) := by omega
      have i2 : (k : Int) < 12 := by omega
      have i3 : ((all.length : Nat) : Int) < 1200 := by omega
      obtain ⟨b, hb⟩ : ∃ b, b = xs[k] := ⟨_, rfl⟩
      have HB := Lib.hid (show Bs.fine w b by rw [hb]; exact HX.out _ (List.getElem_mem g1))
      obtain ⟨ga, o, hA, hga, hel⟩ := Rd.elems HRD.out (fun x hx => by rw [(HX.out x hx).cells]; rfl) (by decide) (show 0 < xs.length by omega)
      have h5 : (KBs.cells b)[0]? = some (.slice b.1.1 b.b.length b.1.2) := by rw [HB.out.cells]; rfl
      rw [hb] at h5
      have hc0 := hel k g1 0 _ h5
      rw [← hb] at hc0
      rw [Nat.mul_one, Nat.add_zero] at hc0
      have hcell := hinv.out.2.2.1.cell hc0 (by simp)
      have HGA := Lib.hid (show ga ≠ g by have := HG.out.1; omega)
      obtain ⟨A1, c1, l1, hl1⟩ : ∃ A1 c1 l1, A1 = b.1.1 ∧ c1 = b.1.2 ∧ l1 = b.b := ⟨_, _, _, rfl, rfl, rfl⟩
      have HR1 := Lib.hid (show RdB w A1 l1 ∧ ∀ a, A1 = some a → 0 < l1.length → a.block < w.heap.size by rw [hl1.1, hl1.2.2]; exact ⟨HB.out.rd, HB.out.lt⟩)
      rw [← hl1.1, ← hl1.2.1, ← hl1.2.2] at hcell
      subst hA
      have HG1 := Lib.hid (show k + 1 ≤ xs.length ∧ k + 1 ≤ 12 ∧ all.length < 1200 from ⟨g1, g2, g3⟩)
      clear hb h5 hel hc0 hl1 hk hk12 hga HB
      by_cases hbig : 800 < l1.length
      · have hb : (800 : Int) < (l1.length : Int) := by omega
        go_wp2_with fail
        go_roundw
        case rel => exact ⟨k + 1, A5, c5, all, HG1.out.1, HG1.out.2.1, hal, by go_num, rfl, hinv.out⟩
        case measure => have := HG1.out.2.1; simp [intOf]; omega
      · have hb : ¬ (800 : Int) < (l1.length : Int) := by omega
        go_wp2_with fail
        refine (write_any g (absAll beginK all) A1 l1 c1 wr hinv.out.1 (absAll_ok beginK_ok all) (HC.out.keeps hinv.out.2.2.1 (by simp)) HG.out.2 (by omega) (HR1.out.1.keeps0 hinv.out.2.2.1) (fun a ha hp => by have := HR1.out.2 a ha hp; have := HG.out.1; omega)).mono ?_
        rintro e w3 ⟨rfl, h3, hk3⟩
        have HK3 := Lib.hid (hinv.out.2.2.1.trans hk3 (fun t ht => .inr (by simp at ht; have := HG.out.1; omega)))
        have HV := Lib.hid (show StA w3 g (absAll beginK (all ++ l1)) ∧ OwnB 5 w3 A5 c5 all ∧ Keeps [] w w3 ∧ (∀ a, A5 = some a → g < a.block) ∧ RdB w3 A1 l1 from
          ⟨by rw [absAll_append]; exact h3, hinv.out.2.1.keeps hk3 (fun a ha => by have := hinv.out.2.2.2 a ha; simp; omega), HK3.out, hinv.out.2.2.2, HR1.out.1.keeps0 HK3.out⟩)
        have hcell3 := hk3.cell hcell (by simp; exact HGA.out)
        clear h3 hk3 hinv hcell HK3
        obtain ⟨r2, hr2⟩ : ∃ r, r = k % 2 := ⟨_, rfl⟩
        have t2 : (k : Int).tmod 2 = (r2 : Int) := by rw [Int.tmod_eq_emod_of_nonneg (by omega)]; omega
        by_cases hodd : r2 = 1
        · have e1 : ((r2 : Int) == 1) = true := by simp [hodd]
          clear hodd hr2
          go_wp2_with (at_builtin; refine wpList_appendB rfl (.tmp 41) (.tmp 45) 22 5 rfl Tryd.underlying22 infoBy A5 c5 all rfl HV.out.2.1 A1 c1 l1 rfl HV.out.2.2.2.2 (by omega) ?_
                       intro A6 c6 w4 al2 hal2 ho4 hk4 hb4
                       have HAL2 := Lib.hid hal2.out
                       have H4 := Lib.hid (show StA w4 g (absAll beginK al2) ∧ OwnB 5 w4 A6 c6 al2 ∧ Keeps [] w w4 ∧ (∀ a, A6 = some a → g < a.block) from by
                         rw [hal2.out] at ho4 ⊢
                         refine ⟨HV.out.1.keeps hk4 (fun hm => ?_), ho4, HV.out.2.2.1.fresh hk4 (fun a ha => by have := HV.out.2.2.2.1 a ha; have := HG.out.1; omega), fun a ha => ?_⟩
                         · obtain ⟨a1, e1, e2⟩ := mem_blk.1 hm
                           have := HV.out.2.2.2.1 a1 e1
                           omega
                         · rcases hb4 a ha with h | h
                           · obtain ⟨a1, e1, e2⟩ := mem_blk.1 h
                             have := HV.out.2.2.2.1 a1 e1
                             omega
                           · have := HV.out.1.lt
                             omega)
                       have hal2l : al2.length ≤ 2000 := by rw [hal2.out, List.length_append]; have := HG1.out.2.2; omega
                       clear hal2 ho4 hk4 hb4)
          refine (stsum_any g _ w4 H4.out.1 (absAll_ok beginK_ok al2) (HC.out.keeps H4.out.2.2.1 (by simp))).mono ?_
          rintro e w5 ⟨rfl, hk5⟩
          obtain ⟨x, hx⟩ : ∃ x, x = outK (absAll beginK al2) 6 32 := ⟨_, rfl⟩
          have HXL := Lib.hid (show x.length = 32 by rw [hx]; exact outK_len _ _ _)
          have HSX := Lib.hid hx
          rw [← hx]
          clear hx
          have fe := fun v => ne_print v x HXL.out
          have fg := fun y1 y2 v => run_eqGuard_arr (P := Tryd.prog) v guard_pr .neq y1 y2 (encB x).toArray (encB x).toArray
          have H5 := Lib.hid (show StA w5 g (absAll beginK al2) ∧ OwnB 5 w5 A6 c6 al2 ∧ Keeps [] w w5 ∧ (∀ a, A6 = some a → g < a.block) from ⟨H4.out.1.keeps hk5 (by simp), H4.out.2.1.keeps0 hk5, H4.out.2.2.1.trans hk5 (by simp), H4.out.2.2.2⟩)
          clear hk5
          go_wp2_with fail
          refine (refsum_any A6 al2 c6 w5 (by omega) H5.out.2.1.rd).mono ?_
          rintro e w6 ⟨rfl, hk5⟩
          rw [← HSX.out]
          have H6 := Lib.hid (show StA w6 g (absAll beginK al2) ∧ OwnB 5 w6 A6 c6 al2 ∧ Keeps [] w w6 ∧ (∀ a, A6 = some a → g < a.block) from ⟨H5.out.1.keeps hk5 (by simp), H5.out.2.1.keeps0 hk5, H5.out.2.2.1.trans hk5 (by simp), H4.out.2.2.2⟩)
          clear hk5
          go_wp2_with fail
          refine (stsum_any g _ w6 H6.out.1 (absAll_ok beginK_ok al2) (HC.out.keeps H6.out.2.2.1 (by simp))).mono ?_
          rintro e w7 ⟨rfl, hk5⟩
          rw [← HSX.out]
          have H7 := Lib.hid (show StA w7 g (absAll beginK al2) ∧ OwnB 5 w7 A6 c6 al2 ∧ Keeps [] w w7 ∧ (∀ a, A6 = some a → g < a.block) from ⟨H6.out.1.keeps hk5 (by simp), H6.out.2.1.keeps0 hk5, H6.out.2.2.1.trans hk5 (by simp), H4.out.2.2.2⟩)
          clear hk5
          go_wp2_with fail
          refine (refsum_any A6 al2 c6 w7 (by omega) H7.out.2.1.rd).mono ?_
          rintro e w8 ⟨rfl, hk5⟩
          rw [← HSX.out]
          have H8 := Lib.hid (show StA w8 g (absAll beginK al2) ∧ OwnB 5 w8 A6 c6 al2 ∧ Keeps [] w w8 ∧ (∀ a, A6 = some a → g < a.block) from ⟨H7.out.1.keeps hk5 (by simp), H7.out.2.1.keeps0 hk5, H7.out.2.2.1.trans hk5 (by simp), H4.out.2.2.2⟩)
          clear hk5
          go_wp2_with fail
          go_roundw
          case rel => exact ⟨k + 1, A6, c6, al2, HG1.out.1, HG1.out.2.1, hal2l, by go_num, rfl, H8.out⟩
          case measure => have := HG1.out.2.1; simp [intOf]; omega
        · have e1 : ((r2 : Int) == 1) = false := by simp; omega
          clear hodd hr2
          go_wp2_with (at_builtin; refine wpList_appendB rfl (.tmp 41) (.tmp 45) 22 5 rfl Tryd.underlying22 infoBy A5 c5 all rfl HV.out.2.1 A1 c1 l1 rfl HV.out.2.2.2.2 (by omega) ?_
                       intro A6 c6 w4 al2 hal2 ho4 hk4 hb4
                       have HAL2 := Lib.hid hal2.out
                       have H4 := Lib.hid (show StA w4 g (absAll beginK al2) ∧ OwnB 5 w4 A6 c6 al2 ∧ Keeps [] w w4 ∧ (∀ a, A6 = some a → g < a.block) from by
                         rw [hal2.out] at ho4 ⊢
                         refine ⟨HV.out.1.keeps hk4 (fun hm => ?_), ho4, HV.out.2.2.1.fresh hk4 (fun a ha => by have := HV.out.2.2.2.1 a ha; have := HG.out.1; omega), fun a ha => ?_⟩
                         · obtain ⟨a1, e1, e2⟩ := mem_blk.1 hm
                           have := HV.out.2.2.2.1 a1 e1
                           omega
                         · rcases hb4 a ha with h | h
                           · obtain ⟨a1, e1, e2⟩ := mem_blk.1 h
                             have := HV.out.2.2.2.1 a1 e1
                             omega
                           · have := HV.out.1.lt
                             omega)
                       have hal2l : al2.length ≤ 2000 := by rw [hal2.out, List.length_append]; have := HG1.out.2.2; omega
                       clear hal2 ho4 hk4 hb4)
          go_roundw
          case rel => exact ⟨k + 1, A6, c6, al2, HG1.out.1, HG1.out.2.1, hal2l, by go_num, rfl, H4.out⟩
          case measure => have := HG1.out.2.1; simp [intOf]; omega
    · have HAL := Lib.hid hal
      obtain ⟨x, hx⟩ : ∃ x, x = outK (absAll beginK all) 6 32 := ⟨_, rfl⟩
      have HXL := Lib.hid (show x.length = 32 by rw [hx]; exact outK_len _ _ _)
      have HSX := Lib.hid hx
      have fe := fun v => eq_print v x HXL.out
      have fg := fun y1 y2 v => run_eqGuard_arr (P := Tryd.prog) v guard_pr .eql y1 y2 (encB x).toArray (encB x).toArray
      clear hx
      have hgo' : ¬ (k : Int) < (xs.length : Int) ∨ ((k : Int) < (xs.length : Int) ∧ ¬ (k : Int) < 12) ∨ ((k : Int) < (xs.length : Int) ∧ (k : Int) < 12 ∧ ¬ ((all.length : Nat) : Int) < 1200) := by omega
      clear hgo
      rcases hgo' with h1 | ⟨h1, h2⟩ | ⟨h1, h2, h3⟩
      all_goals
        go_wp2_with fail
        refine (stsum_any g _ wr hinv.out.1 (absAll_ok beginK_ok all) (HC.out.keeps hinv.out.2.2.1 (by simp))).mono ?_
        rintro e w5 ⟨rfl, hk5⟩
        rw [← HSX.out]
        have H5 := Lib.hid (show StA w5 g (absAll beginK all) ∧ OwnB 5 w5 A5 c5 all ∧ Keeps [] w w5 from ⟨hinv.out.1.keeps hk5 (by simp), hinv.out.2.1.keeps0 hk5, hinv.out.2.2.1.trans hk5 (by simp)⟩)
        clear hk5
        go_wp2_with fail
        refine (refsum_any A5 all c5 w5 (by have := HAL.out; omega) H5.out.2.1.rd).mono ?_
        rintro e w6 ⟨rfl, hk5⟩
        rw [← HSX.out]
        have H6 := Lib.hid (show StA w6 g (absAll beginK all) ∧ OwnB 5 w6 A5 c5 all ∧ Keeps [] w w6 from ⟨H5.out.1.keeps hk5 (by simp), H5.out.2.1.keeps0 hk5, H5.out.2.2.trans hk5 (by simp)⟩)
        clear hk5
        go_wp2_with fail
        refine (ksum_any A5 all c5 w6 (HC.out.keeps H6.out.2.2 (by simp)) (by have := HAL.out; omega) H6.out.2.1.rd (fun a ha _ => H6.out.2.1.lt a ha)).mono ?_
        rintro e w7 ⟨rfl, hk5⟩
        rw [← HSX.out]
        have H7 := Lib.hid (show StA w7 g (absAll beginK all) ∧ Keeps [] w w7 from ⟨H6.out.1.keeps hk5 (by simp), H6.out.2.2.trans hk5 (by simp)⟩)
        clear hk5
        go_wp2_with fail
        refine (stsum_any g _ w7 H7.out.1 (absAll_ok beginK_ok all) (HC.out.keeps H7.out.2 (by simp))).mono ?_
        rintro e w8 ⟨rfl, hk5⟩
        rw [← HSX.out]
        have H8 := Lib.hid (H7.out.2.trans hk5 (by simp))
        clear hk5
        go_wp2_with fail
        refine (sure_any w8 (HC.out.keeps H8.out (by simp))).mono ?_
        rintro e w9 ⟨rfl, hk9⟩
        go_wp2_with fail
        go_ret
        exact ⟨rfl, (H8.out.trans hk9 (by simp)).below (Nat.le_refl _) (by simp)⟩
end Go.Proofs.YtccacdfkdkiaeaaDoor
