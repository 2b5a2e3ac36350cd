/- The law's sure: a contract. -/
import Derived.Test.YtccacdfkdkiaeaaDoorKecSure
import Derived.Test.YtccacdfkdkiaeaaDoorKecShake
import Derived.Lib.SlBytesConst
namespace Go.Proofs.YtccacdfkdkiaeaaDoor
open Go.RowKit
attribute [local irreducible] turnK outK absAll hexAll

theorem sumlen (l : List UInt8) : (outK (absAll beginK l) 6 32).length = 32 := outK_len _ _ _
theorem abc_list : (strB abcT).toList = [51, 97, 57, 56, 53, 100, 97, 55, 52, 102, 101, 50, 50, 53, 98, 50, 48, 52, 53, 99, 49, 55, 50, 100, 54, 98, 100, 51, 57, 48, 98, 100, 56, 53, 53, 102, 48, 56, 54, 101, 51, 101, 57, 100, 53, 50, 53, 98, 52, 54, 98, 102, 101, 50, 52, 53, 49, 49, 52, 51, 49, 53, 51, 50] := strB_toList _
theorem nil_list : (strB nilT).toList = [97, 55, 102, 102, 99, 54, 102, 56, 98, 102, 49, 101, 100, 55, 54, 54, 53, 49, 99, 49, 52, 55, 53, 54, 97, 48, 54, 49, 100, 54, 54, 50, 102, 53, 56, 48, 102, 102, 52, 100, 101, 52, 51, 98, 52, 57, 102, 97, 56, 50, 100, 56, 48, 97, 52, 98, 56, 48, 102, 56, 52, 51, 52, 97] := strB_toList _
set_option maxHeartbeats 1000000 in
theorem sure_any (w : World) (hc : Con w) :
    Calls Tryd.prog 8 #[] w fun e w' => e = .returned (.bool true) ∧ Keeps [] w w' := by
  have kc := fun (w : World) (C : Array Value) (n c : Nat) => Lib.run_convert_bytes_const (P := Tryd.prog) w 22 5 C n c Tryd.underlying22 Tryd.underlying5
  have r1 := abc_list
  have r2 := nil_list
  have HR := Lib.hid (fun fr => RdB.lit w [97, 98, 99] 5 fr)
  have HC := Lib.hid hc
  clear hc
  go_enter Tryd.func8, Tryd.ntmps8
  go_wp2_with fail
  refine (ksum_any _ [97, 98, 99] 3 _ (HC.out.keeps ((Keeps.refl [] w).alloc _) (by simp)) (by simp) (HR.out (3, 4)) (fun a ha _ => by cases ha; simp)).mono ?_
  rintro e w1 ⟨rfl, hk1⟩
  have hk1 := Lib.hid (((Keeps.refl [] w).alloc _).trans hk1 (by simp))
  obtain ⟨p, hp⟩ : ∃ p, p = outK (absAll beginK [97, 98, 99]) 6 32 := ⟨_, rfl⟩
  have HP := Lib.hid (show p.length = 32 by rw [hp]; exact sumlen _)
  have HE := Lib.hid (show hexAll p = abcT by rw [hp]; exact abc_is)
  rw [← hp]
  clear hp
  go_wp2_with fail
  refine (text_any p _ HP.out).mono ?_
  rintro e w2 ⟨rfl, hk2⟩
  have hk2 := Lib.hid (hk1.out.trans hk2 (by simp))
  rw [HE.out]
  clear hk1 HE HP
  go_wp2_with fail
  refine (ksum_any none [] 0 w2 (HC.out.keeps hk2.out (by simp)) (by simp) (RdB.nil _ _) (by simp)).mono ?_
  rintro e w3 ⟨rfl, hk3⟩
  have hk3 := Lib.hid (hk2.out.trans hk3 (by simp))
  obtain ⟨q, hq⟩ : ∃ q, q = outK (absAll beginK []) 6 32 := ⟨_, rfl⟩
  have HQ := Lib.hid (show q.length = 32 by rw [hq]; exact sumlen _)
  have HE := Lib.hid (show hexAll q = nilT by rw [hq]; exact nil_is)
  rw [← hq]
  clear hq hk2
  go_wp2_with fail
  refine (text_any q _ HQ.out).mono ?_
  rintro e w4 ⟨rfl, hk4⟩
  have hk4 := Lib.hid (hk3.out.trans hk4 (by simp))
  rw [HE.out]
  clear hk3 HE HQ
  go_wp2_with fail
  go_ret
  exact ⟨rfl, hk4.out⟩
end Go.Proofs.YtccacdfkdkiaeaaDoor
