/- The law on shakes: called with any bytes and any number it answers true. -/
import Derived.Test.YtccacdfkdkiaeaaDoorKecSumsC
import Derived.Test.YtccacdfkdkiaeaaDoorKecRefShake
import Derived.Test.YtccacdfkdkiaeaaDoorNum
namespace Go.Proofs.YtccacdfkdkiaeaaDoor
open Go.RowKit
attribute [local irreducible] turnK outK absAll hexAll shakeK errV

set_option maxRecDepth 100000 in
set_option maxHeartbeats 2000000 in
theorem shakes_any (A : Option Addr) (l : List UInt8) (c : Nat) (n : Int) (w : World) (hc : Con w) (ht : HT w) (hl : l.length ≤ 140737488351232) (hr : RdB w A l) (hA : ∀ a, A = some a → 0 < l.length → a.block < w.heap.size) :
    Calls Tryd.prog 7 #[.slice A l.length c, .int .i64 n] w fun e w' => e = .returned (.bool true) ∧ Keeps [] w w' := by
  have HC := Lib.hid (And.intro hc ht)
  have HR := Lib.hid hr
  have HA := Lib.hid hA
  clear hc ht hr hA
  have four : ((3000 : Int) < (l.length : Int) ∨ (¬ (3000 : Int) < (l.length : Int) ∧ 3000 < n ∧ n ≤ 1048576)) ∨ ((¬ (3000 : Int) < (l.length : Int) ∧ ¬ 3000 < n) ∨ (¬ (3000 : Int) < (l.length : Int) ∧ 3000 < n ∧ ¬ n ≤ 1048576)) := by omega
  rcases four with (h1 | ⟨h1, h2, h3⟩) | h
  · go_enter Tryd.func7, Tryd.ntmps7
    go_wp2_with fail
    refine (sure_any w HC.out.1).mono ?_
    rintro e w1 ⟨rfl, hk1⟩
    go_wp2_with fail
    go_ret
    exact ⟨rfl, hk1⟩
  · go_enter Tryd.func7, Tryd.ntmps7
    go_wp2_with fail
    refine (sure_any w HC.out.1).mono ?_
    rintro e w1 ⟨rfl, hk1⟩
    go_wp2_with fail
    go_ret
    exact ⟨rfl, hk1⟩
  · have HLB := Lib.hid (show l.length ≤ 1000000 by omega)
    have HSK := Lib.hid (kshake_any A l c n w HC.out.1 hl HR.out HA.out)
    have HRS := Lib.hid (fun z (hk : Keeps [] w z) => refshake_any A l c n z HLB.out (HR.out.keeps0 hk))
    obtain ⟨r, hr⟩ : ∃ r, r = shakeK l n := ⟨_, rfl⟩
    rw [← hr] at HSK HRS
    clear hr
    rcases h with ⟨h1, h2⟩ | ⟨h1, h2, h3⟩
    all_goals
      go_enter Tryd.func7, Tryd.ntmps7
      go_wp2_with fail
      refine HSK.out.mono ?_
      rintro e w1 ⟨A1, c1, x, hx, rfl, ho1, hn1, hk1⟩
      obtain ⟨ev, hev⟩ : ∃ ev, ev = errV r.2 := ⟨_, rfl⟩
      rw [← hev]
      have HEV := Lib.hid hev
      have HO1 := Lib.hid ho1.rd
      have HK1 := Lib.hid hk1
      clear hev ho1 hn1 hk1
      go_wp2_with fail
      refine (HRS.out w1 HK1.out).mono ?_
      rintro e w2 ⟨A2, c2, y, hy, rfl, ho2, hk2⟩
      obtain rfl : y = x := hy.out.trans hx.out.symm
      have HK2 := Lib.hid (HK1.out.trans hk2 (by simp))
      have F1 := conv_keeps (P := Tryd.prog) (dst := 9) Tryd.underlying22 Tryd.underlying5 Tryd.underlying9 (HO1.out.keeps0 hk2) c1
      have F2 := conv_keeps (P := Tryd.prog) (dst := 9) Tryd.underlying22 Tryd.underlying5 Tryd.underlying9 ho2.rd c2
      obtain ⟨m, hm⟩ : ∃ m, m = r.2 := ⟨_, rfl⟩
      have HM := Lib.hid (show ev = errV m by rw [HEV.out, hm])
      rw [← hm]
      clear hm ho2 hk2
      have G1 := F1 w2 (Keeps.refl [] w2)
      have G2 := F2 w2 (Keeps.refl [] w2)
      clear F1 F2
      go_wp2_with fail
      rw [HM.out]
      refine (num_any m w2 (HC.out.2.keeps HK2.out (by simp))).mono ?_
      rintro e w3 ⟨rfl, hk3⟩
      have H3 := Lib.hid (show Keeps [] w w3 from HK2.out.trans hk3 (by simp))
      clear hk3
      go_wp2_with fail
      refine (sure_any w3 (HC.out.1.keeps H3.out (by simp))).mono ?_
      rintro e w4 ⟨rfl, hk4⟩
      have H4 := Lib.hid (show Keeps [] w w4 from H3.out.trans hk4 (by simp))
      clear hk4
      go_wp2_with fail
      go_ret
      exact ⟨rfl, H4.out⟩
theorem shakes_row (A : Option Addr) (l : List UInt8) (c : Nat) (n : Int) (w : World) (hc : Con w ∧ HT w) (hl : l.length ≤ 140737488351232) (hr : RdB w A l) :
    Calls Tryd.prog 7 #[.slice A l.length c, .int .i64 n] w fun e w' => e = .returned (.bool true) ∧ Below w.heap.size w w' :=
  (shakes_any A l c n w hc.1 hc.2 hl hr (fun a ha hp => Rd.lt hr (by simpa using hp) ha)).mono fun _ _ h => ⟨h.1, h.2.below (Nat.le_refl _) (by simp)⟩
end Go.Proofs.YtccacdfkdkiaeaaDoor
