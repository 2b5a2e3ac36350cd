/- Shaken: contracts. -/
import Derived.Test.YtccacdfkdkiaeaaDoorKecSum
import Derived.Test.YtccacdfkdkiaeaaDoorErrV
namespace Go.Proofs.YtccacdfkdkiaeaaDoor
open Go.RowKit
attribute [local irreducible] turnK outK

/-- What is shaken out of bytes, and the error. -/
def shakeK (l : List UInt8) (n : Int) : List UInt8 × Int := if n < 0 then ([], 1) else if 1048576 < n then ([], 2) else (outK (absAll beginK l) 31 n.toNat, 0)
def ShakeP (r : List UInt8 × Int) (w : World) (e : Ending) (w' : World) : Prop :=
  ∃ A c x, Hid (x = r.1) ∧ e = .returned (.tuple #[.slice A x.length c, errV r.2]) ∧ OwnB 5 w' A c x ∧ (∀ a, A = some a → w.heap.size ≤ a.block) ∧ Keeps [] w w'

set_option maxHeartbeats 2000000 in
theorem kshake_any (A : Option Addr) (l : List UInt8) (c : Nat) (n : Int) (w : World) (hc : Con w) (hl : l.length ≤ 140737488351232) (hr : RdB w A l) (hA : ∀ a, A = some a → 0 < l.length → a.block < w.heap.size) :
    Calls Tryd.prog 16 #[.slice A l.length c, .int .i64 n] w (ShakeP (shakeK l n) w) := by
  have HC := Lib.hid hc
  have HR := Lib.hid hr
  have HA := Lib.hid hA
  clear hc hr hA
  by_cases h0 : n < 0
  · have e1 : shakeK l n = ([], 1) := by unfold shakeK; rw [if_pos h0]
    rw [e1]
    clear e1
    go_enter Tryd.func16, Tryd.ntmps16
    go_wp2_with fail
    go_ret2
    exact ⟨none, 0, [], rfl, by rw [errV_other (by decide)]; rfl, OwnB.nil _ _, by simp, Keeps.refl [] w⟩
  · by_cases h1 : 1048576 < n
    · have e1 : shakeK l n = ([], 2) := by unfold shakeK; rw [if_neg h0, if_pos h1]
      rw [e1]
      clear e1
      go_enter Tryd.func16, Tryd.ntmps16
      go_wp2_with fail
      go_ret2
      exact ⟨none, 0, [], rfl, by rw [errV_other (by decide)]; rfl, OwnB.nil _ _, by simp, Keeps.refl [] w⟩
    · obtain ⟨m, rfl⟩ : ∃ m : Nat, n = (m : Int) := ⟨n.toNat, by omega⟩
      have e1 : shakeK l m = (outK (absAll beginK l) 31 m, 0) := by unfold shakeK; rw [if_neg h0, if_neg h1]; rfl
      rw [e1]
      clear e1
      go_enter Tryd.func16, Tryd.ntmps16
      go_wp2_with fail
      refine (new_any w).mono ?_
      rintro e w1 ⟨g, rfl, hg, h1, hk1⟩
      have H1 := Lib.hid (show StA w1 g beginK ∧ Keeps [] w w1 ∧ w.heap.size ≤ g from ⟨h1, hk1, hg⟩)
      clear h1 hk1 hg
      go_wp2_with fail
      refine (write_any g beginK A l c w1 H1.out.1 beginK_ok (HC.out.keeps H1.out.2.1 (by simp)) (by have := HC.out.lt; have := H1.out.2.2; omega) hl (HR.out.keeps0 H1.out.2.1) (fun a ha hp => by have := HA.out a ha hp; have := H1.out.2.2; omega)).mono ?_
      rintro e w2 ⟨rfl, h2, hk2⟩
      have H2 := Lib.hid (show StA w2 g (absAll beginK l) ∧ Keeps [] w w2 from ⟨h2, H1.out.2.1.trans hk2 (fun t ht => .inr (by have := H1.out.2.2; simp at ht; omega))⟩)
      clear h2 hk2 H1
      go_wp2_with fail
      refine (out_any g _ w2 H2.out.1 (absAll_ok beginK_ok l) (HC.out.keeps H2.out.2 (by simp)) 31 m (by decide) (by omega)).mono ?_
      rintro e w3 ⟨A3, c3, x, hx, rfl, ho, hn, hk⟩
      go_wp2_with fail
      go_ret2
      exact ⟨A3, c3, x, hx, rfl, ho, fun a ha => Nat.le_trans H2.out.2.size (hn a ha), H2.out.2.trans hk (by simp)⟩
end Go.Proofs.YtccacdfkdkiaeaaDoor
