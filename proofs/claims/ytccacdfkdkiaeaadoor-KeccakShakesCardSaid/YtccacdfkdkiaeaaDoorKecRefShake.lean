/- What the document shakes: a contract. -/
import Derived.Test.YtccacdfkdkiaeaaDoorKecRefSum
import Derived.Test.YtccacdfkdkiaeaaDoorKecShake
namespace Go.Proofs.YtccacdfkdkiaeaaDoor
open Go.RowKit
attribute [local irreducible] turnK absAll sqzTo endK padK outK

def RShakeP (r : List UInt8 × Int) (w : World) (e : Ending) (w' : World) : Prop :=
  ∃ A c x, Hid (x = r.1) ∧ e = .returned (.tuple #[.slice A x.length c, .int .i64 r.2]) ∧ OwnB 5 w' A c x ∧ Keeps [] w w'
set_option maxHeartbeats 2000000 in
theorem refshake_any (A : Option Addr) (l : List UInt8) (c : Nat) (n : Int) (w : World) (hl : l.length ≤ 1000000) (hr : RdB w A l) :
    Calls Tryd.prog 17 #[.slice A l.length c, .int .i64 n] w (RShakeP (shakeK l n) w) := by
  have HR := Lib.hid hr
  clear hr
  by_cases h0 : n < 0
  · have e1 : shakeK l n = ([], 1) := by unfold shakeK; rw [if_pos h0]
    rw [e1]
    clear e1
    go_enter Tryd.func17, Tryd.ntmps17
    go_wp2_with fail
    go_ret2
    exact ⟨none, 0, [], rfl, rfl, OwnB.nil _ _, Keeps.refl [] w⟩
  · by_cases h1 : 1048576 < n
    · have e1 : shakeK l n = ([], 2) := by unfold shakeK; rw [if_neg h0, if_pos h1]
      rw [e1]
      clear e1
      go_enter Tryd.func17, Tryd.ntmps17
      go_wp2_with fail
      go_ret2
      exact ⟨none, 0, [], rfl, rfl, OwnB.nil _ _, Keeps.refl [] w⟩
    · obtain ⟨m, rfl⟩ : ∃ m : Nat, n = (m : Int) := ⟨n.toNat, by omega⟩
      have e1 : shakeK l m = (outK (absAll beginK l) 31 m, 0) := by unfold shakeK; rw [if_neg h0, if_neg h1]; rfl
      rw [e1]
      clear e1
      go_enter Tryd.func17, Tryd.ntmps17
      go_wp2_with fail
      refine (refout_any A l c 31 m w hl HR.out (by omega)).mono ?_
      rintro e w3 ⟨A3, c3, x, hx, rfl, ho, hn, hk⟩
      go_wp2_with fail
      go_ret2
      exact ⟨A3, c3, x, hx, rfl, ho, hk⟩
end Go.Proofs.YtccacdfkdkiaeaaDoor
