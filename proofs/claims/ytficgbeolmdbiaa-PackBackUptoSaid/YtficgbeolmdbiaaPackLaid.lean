/- A thing laid: by the document, by a nil writer, by a writer: contracts. -/
import Derived.Test.YtficgbeolmdbiaaPackLay
import Derived.Test.YtficgbeolmdbiaaPackRefV
import Derived.Test.YtficgbeolmdbiaaKinds
namespace Go.Proofs.Ytficgbeolmdbiaa
open Go.RowKit

set_option maxHeartbeats 4000000 in
theorem laid_any (kd n : Int) (h1 : -9223372036854775808 ≤ n) (h2 : n ≤ 9223372036854775807) (Ab : Option Addr) (b : List UInt8) (cb : Nat) (A2 : Option Addr) (l : List UInt8) (c2 : Nat) (p : List UInt8) (h32 : p.length = 32) (w : World) (hb : b.length + l.length + 80 ≤ 140737488355328) (hrb : RdB w Ab b) (hr : RdB w A2 l) :
    Calls Try.prog 11 #[.slice Ab b.length cb, thV kd n A2 l.length c2 p] w (NewB 5 (b ++ thB kd n l p) w) := by
  have HRB := Lib.hid (hrb.alloc (.cells (Value.int .i64 kd :: Value.int .i64 n :: Value.slice A2 l.length c2 :: encB p).toArray 35))
  have HR := Lib.hid (hr.alloc (.cells (Value.int .i64 kd :: Value.int .i64 n :: Value.slice A2 l.length c2 :: encB p).toArray 35))
  have HK := Lib.hid ((Keeps.refl [] w).alloc (.cells (Value.int .i64 kd :: Value.int .i64 n :: Value.slice A2 l.length c2 :: encB p).toArray 35))
  have HI := Lib.hid (show (Try.prog.info? 33).map (·.size) = some (encB p).length by rw [length_encB, h32]; exact info_print)
  have HPR := Lib.hid (print_range w (.int .i64 kd) (.int .i64 n) (.slice A2 l.length c2) p 35)
  have F := conv_keeps (P := Try.prog) (dst := 9) Try.underlying23 Try.underlying5 Try.underlying9 hr c2 _ ((Keeps.refl [] w).alloc (.cells (Value.int .i64 kd :: Value.int .i64 n :: Value.slice A2 l.length c2 :: encB p).toArray 35))
  have H32 := Lib.hid h32
  obtain ⟨m, hm⟩ : ∃ m : Nat, IntKind.u64.wrap n = (m : Int) := ⟨(IntKind.u64.wrap n).toNat, by rw [IntKind.wrap_u64]; omega⟩
  have hml : m < 18446744073709551616 := by rw [IntKind.wrap_u64] at hm; omega
  have HM := Lib.hid (show (IntKind.u64.wrap n).toNat = m by rw [hm]; rfl)
  have hkr := kind6_range kd
  obtain ⟨q, hq⟩ : ∃ q, kind6 kd = q := ⟨_, rfl⟩
  have HQ := Lib.hid hq
  have hk' : (IntKind.u64.wrap kd).tmod 6 = q := hq
  rw [hq] at hkr
  clear hrb hr h32 hq
  have hc6 : q = 0 ∨ q = 1 ∨ q = 2 ∨ q = 3 ∨ q = 4 ∨ q = 5 := by omega
  clear hkr
  unfold thV
  rcases hc6 with rfl | rfl | rfl | rfl | rfl | rfl
  · have HS := Lib.hid (show thB kd n l p = uintB m by unfold thB; rw [HQ.out]; simp [HM.out])
    clear HQ
    go_enter Try.func11, Try.ntmps11
    go_wp2_with fail
    all_goals
      refine (refuintw_any Ab b cb m _ (by omega) HRB.out hml).mono ?_
      intro e w1 hp
      obtain ⟨A1, c1, l1, rfl, hst⟩ := ((NewB.before HK.out hp).spec (show _ = b ++ thB kd n l p by rw [HS.out])).step
      have HST := Lib.hid hst
      clear hp hst
      go_wp2_with fail
      go_ret
      exact HST.out.post
  · have HS := Lib.hid (show thB kd n l p = intB n by unfold thB; rw [HQ.out]; simp)
    clear HQ
    go_enter Try.func11, Try.ntmps11
    go_wp2_with fail
    all_goals
      refine (refintw_any Ab b cb n h1 h2 _ (by omega) HRB.out).mono ?_
      intro e w1 hp
      obtain ⟨A1, c1, l1, rfl, hst⟩ := ((NewB.before HK.out hp).spec (show _ = b ++ thB kd n l p by rw [HS.out])).step
      have HST := Lib.hid hst
      clear hp hst
      go_wp2_with fail
      go_ret
      exact HST.out.post
  · have HS := Lib.hid (show thB kd n l p = [if decide (0 < n) then 1 else 0] by unfold thB; rw [HQ.out]; simp)
    clear HQ
    go_enter Try.func11, Try.ntmps11
    go_wp2_with fail
    all_goals
      refine (refboolw_any Ab b cb (decide (0 < n)) _ (by omega) HRB.out).mono ?_
      intro e w1 hp
      obtain ⟨A1, c1, l1, rfl, hst⟩ := ((NewB.before HK.out hp).spec (show _ = b ++ thB kd n l p by rw [HS.out])).step
      have HST := Lib.hid hst
      clear hp hst
      go_wp2_with fail
      go_ret
      exact HST.out.post
  · have HS := Lib.hid (show thB kd n l p = lenB l by unfold thB; rw [HQ.out]; simp)
    clear HQ
    go_enter Try.func11, Try.ntmps11
    go_wp2_with fail
    all_goals
      refine (reftextw_any Ab b cb l _ (by omega) HRB.out).mono ?_
      intro e w1 hp
      obtain ⟨A1, c1, l1, rfl, hst⟩ := ((NewB.before HK.out hp).spec (show _ = b ++ thB kd n l p by rw [HS.out]; rfl)).step
      have HST := Lib.hid hst
      clear hp hst
      go_wp2_with fail
      go_ret
      exact HST.out.post
  · have HS := Lib.hid (show thB kd n l p = lenB l by unfold thB; rw [HQ.out]; simp)
    clear HQ
    go_enter Try.func11, Try.ntmps11
    go_wp2_with fail
    all_goals
      refine (refbytesw_any Ab b cb A2 l c2 _ (by omega) HRB.out HR.out).mono ?_
      intro e w1 hp
      obtain ⟨A1, c1, l1, rfl, hst⟩ := ((NewB.before HK.out hp).spec (show _ = b ++ thB kd n l p by rw [HS.out]; rfl)).step
      have HST := Lib.hid hst
      clear hp hst
      go_wp2_with fail
      go_ret
      exact HST.out.post
  · have HS := Lib.hid (show thB kd n l p = p by unfold thB; rw [HQ.out]; simp)
    clear HQ
    go_enter Try.func11, Try.ntmps11
    go_wp2_with (refine wpList_load_mid rfl 33 (.tmp 44) rfl w.heap.size 3 rfl (encB p) _ HPR.out Try.underlying33 rfl HI.out ?_)
    all_goals
      refine (refprintw_any Ab b cb p H32.out _ (by omega) HRB.out).mono ?_
      intro e w1 hp
      obtain ⟨A1, c1, l1, rfl, hst⟩ := ((NewB.before HK.out hp).spec (show _ = b ++ thB kd n l p by rw [HS.out])).step
      have HST := Lib.hid hst
      clear hp hst
      go_wp2_with fail
      go_ret
      exact HST.out.post

set_option maxHeartbeats 4000000 in
theorem lay_nil (kd n : Int) (h1 : -9223372036854775808 ≤ n) (h2 : n ≤ 9223372036854775807) (A2 : Option Addr) (l : List UInt8) (c2 : Nat) (p : List UInt8) (h32 : p.length = 32) (w : World) (hb : l.length ≤ 140737488355328) (hr : RdB w A2 l) :
    Calls Try.prog 10 #[.pointer none, thV kd n A2 l.length c2 p] w (NilP w) := by
  have HK := Lib.hid ((Keeps.refl [] w).alloc (.cells (Value.int .i64 kd :: Value.int .i64 n :: Value.slice A2 l.length c2 :: encB p).toArray 35))
  have HI := Lib.hid (show (Try.prog.info? 33).map (·.size) = some (encB p).length by rw [length_encB, h32]; exact info_print)
  have HPR := Lib.hid (print_range w (.int .i64 kd) (.int .i64 n) (.slice A2 l.length c2) p 35)
  have F := conv_keeps (P := Try.prog) (dst := 9) Try.underlying23 Try.underlying5 Try.underlying9 hr c2 _ ((Keeps.refl [] w).alloc (.cells (Value.int .i64 kd :: Value.int .i64 n :: Value.slice A2 l.length c2 :: encB p).toArray 35))
  have H32 := Lib.hid h32
  obtain ⟨m, hm⟩ : ∃ m : Nat, IntKind.u64.wrap n = (m : Int) := ⟨(IntKind.u64.wrap n).toNat, by rw [IntKind.wrap_u64]; omega⟩
  have hml : m < 18446744073709551616 := by rw [IntKind.wrap_u64] at hm; omega
  have hkr := kind6_range kd
  obtain ⟨q, hq⟩ : ∃ q, kind6 kd = q := ⟨_, rfl⟩
  have hk' : (IntKind.u64.wrap kd).tmod 6 = q := hq
  rw [hq] at hkr
  clear hr h32 hq
  have hc6 : q = 0 ∨ q = 1 ∨ q = 2 ∨ q = 3 ∨ q = 4 ∨ q = 5 := by omega
  clear hkr
  unfold thV
  rcases hc6 with rfl | rfl | rfl | rfl | rfl | rfl
  · go_enter Try.func10, Try.ntmps10
    go_wp2_with fail
    all_goals
      refine (uint_nil m _ hml).mono ?_
      rintro e w1 ⟨rfl, hk1⟩
      have HK1 := Lib.hid (HK.out.trans hk1 (by simp))
      clear hk1
      go_wp2_with fail
      go_ret
      exact ⟨rfl, HK1.out⟩
  · go_enter Try.func10, Try.ntmps10
    go_wp2_with fail
    all_goals
      refine (int_nil n h1 h2 _).mono ?_
      rintro e w1 ⟨rfl, hk1⟩
      have HK1 := Lib.hid (HK.out.trans hk1 (by simp))
      clear hk1
      go_wp2_with fail
      go_ret
      exact ⟨rfl, HK1.out⟩
  · go_enter Try.func10, Try.ntmps10
    go_wp2_with fail
    all_goals
      refine (bool_nil (decide (0 < n)) _).mono ?_
      rintro e w1 ⟨rfl, hk1⟩
      have HK1 := Lib.hid (HK.out.trans hk1 (by simp))
      clear hk1
      go_wp2_with fail
      go_ret
      exact ⟨rfl, HK1.out⟩
  · go_enter Try.func10, Try.ntmps10
    go_wp2_with fail
    all_goals
      refine (text_nil l hb _).mono ?_
      rintro e w1 ⟨rfl, hk1⟩
      have HK1 := Lib.hid (HK.out.trans hk1 (by simp))
      clear hk1
      go_wp2_with fail
      go_ret
      exact ⟨rfl, HK1.out⟩
  · go_enter Try.func10, Try.ntmps10
    go_wp2_with fail
    all_goals
      refine (bytes_nil A2 l.length c2 hb _).mono ?_
      rintro e w1 ⟨rfl, hk1⟩
      have HK1 := Lib.hid (HK.out.trans hk1 (by simp))
      clear hk1
      go_wp2_with fail
      go_ret
      exact ⟨rfl, HK1.out⟩
  · go_enter Try.func10, Try.ntmps10
    go_wp2_with (refine wpList_load_mid rfl 33 (.tmp 44) rfl w.heap.size 3 rfl (encB p) _ HPR.out Try.underlying33 rfl HI.out ?_)
    all_goals
      refine (print_nil p _).mono ?_
      rintro e w1 ⟨rfl, hk1⟩
      have HK1 := Lib.hid (HK.out.trans hk1 (by simp))
      clear hk1
      go_wp2_with fail
      go_ret
      exact ⟨rfl, HK1.out⟩

theorem lay_any (kd n : Int) (h1 : -9223372036854775808 ≤ n) (h2 : n ≤ 9223372036854775807) (g : Nat) (A : Option Addr) (c : Nat) (out : List UInt8) (A2 : Option Addr) (l : List UInt8) (c2 : Nat) (p : List UInt8) (h32 : p.length = 32) (w : World) (hw : Wr w g A c out) (hb : out.length + l.length + 80 ≤ 140737488355328) (hr : RdB w A2 l) (hA : ∀ a, A2 = some a → 0 < l.length → a.block ≠ g ∧ a.block ∉ blk A) :
    Calls Try.prog 10 #[.pointer (some ⟨g, 0, none⟩), thV kd n A2 l.length c2 p] w (WrPost g A (out ++ thB kd n l p) w) := by
  have hkr := kind6_range kd
  have hc6 : kind6 kd = 0 ∨ kind6 kd = 1 ∨ kind6 kd = 2 ∨ kind6 kd = 3 ∨ kind6 kd = 4 ∨ kind6 kd = 5 := by omega
  unfold thB
  rcases hc6 with hq | hq | hq | hq | hq | hq
  · rw [if_pos hq]; exact lay_uint kd n hq g A c out A2 l c2 p w hw (by omega)
  · rw [if_neg (by omega), if_pos hq]; exact lay_int kd n hq g A c out A2 l c2 p w hw (by omega) h1 h2
  · rw [if_neg (by omega), if_neg (by omega), if_pos hq]
    have := lay_bool kd n hq g A c out A2 l c2 p w hw (by omega)
    simpa using this
  · rw [if_neg (by omega), if_neg (by omega), if_neg (by omega), if_pos (.inl hq)]; exact lay_text kd n hq g A c out A2 l c2 p w hw (by omega) hr
  · rw [if_neg (by omega), if_neg (by omega), if_neg (by omega), if_pos (.inr hq)]; exact lay_bytes kd n hq g A c out A2 l c2 p w hw (by omega) hr hA
  · rw [if_neg (by omega), if_neg (by omega), if_neg (by omega), if_neg (by omega)]; exact lay_print kd n hq g A c out A2 l c2 p h32 w hw (by omega)

end Go.Proofs.Ytficgbeolmdbiaa
