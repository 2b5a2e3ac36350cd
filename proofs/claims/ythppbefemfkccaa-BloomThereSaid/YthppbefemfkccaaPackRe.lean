/- What is left, the first error: contracts. -/
import Derived.Test.YthppbefemfkccaaPackRd
namespace Go.Proofs.Ythppbefemfkccaa
open Go.RowKit
theorem OwnB.cap {E : TypeId} {w : World} {A : Option Addr} {c : Nat} {l : List UInt8} (h : OwnB E w A c l) : l.length ≤ c := by
  rcases h.2 with ⟨h1, h2⟩ | ⟨g, cap, cur, h1, _, _, h2, _⟩
  · rw [h2]; exact Nat.zero_le _
  · injection h1 with _ _ h3; rw [h3]; exact h2
theorem errof_any (g : Nat) (A : Option Addr) (c : Nat) (l : List UInt8) (e : Int) (w : World) (h : Rdr w g A c l e) :
    Calls Try.prog 30 #[.pointer (some ⟨g, 0, none⟩)] w fun en w' => en = .returned (errV e) ∧ w = w' := by
  have c1 := h.c1
  clear h
  go_enter Try.func30, Try.ntmps30
  go_wp2_with fail
  go_ret
  exact ⟨rfl, rfl⟩
/-- The first error, or that bytes are left. -/
def doneR (l : List UInt8) (e : Int) : Int := if e ≠ 0 then e else if l.length = 0 then 0 else 3
theorem rddone_any (g : Nat) (A : Option Addr) (c : Nat) (l : List UInt8) (e : Int) (w : World) (h : Rdr w g A c l e) :
    Calls Try.prog 21 #[.pointer (some ⟨g, 0, none⟩)] w fun en w' => en = .returned (errV (doneR l e)) ∧ w = w' := by
  have H := Lib.hid h
  have c0 := h.c0
  clear h
  by_cases he : e = 0
  · subst he
    by_cases hl : l.length = 0
    · have e1 : doneR l 0 = 0 := by unfold doneR; rw [if_neg (by simp), if_pos hl]
      rw [e1, errV_zero]
      rw [hl] at c0
      go_enter Try.func21, Try.ntmps21
      go_wp2_with fail
      refine (errof_any g A c l 0 _ H.out).mono ?_
      rintro en w' ⟨rfl, rfl⟩
      rw [errV_zero]
      go_wp2_with fail
      go_ret
      exact ⟨rfl, rfl⟩
    · have e1 : doneR l 0 = 3 := by unfold doneR; rw [if_neg (by simp), if_neg hl]
      rw [e1, errV_other (by decide)]
      have hl' : ¬ (l.length : Int) = 0 := by omega
      go_enter Try.func21, Try.ntmps21
      go_wp2_with fail
      refine (errof_any g A c l 0 _ H.out).mono ?_
      rintro en w' ⟨rfl, rfl⟩
      rw [errV_zero]
      go_wp2_with fail
      go_ret
      exact ⟨rfl, rfl⟩
  · have e1 : doneR l e = e := by unfold doneR; rw [if_pos he]
    rw [e1, errV_other he]
    go_enter Try.func21, Try.ntmps21
    go_wp2_with fail
    refine (errof_any g A c l e _ H.out).mono ?_
    rintro en w' ⟨rfl, rfl⟩
    rw [errV_other he]
    go_wp2_with fail
    go_ret
    exact ⟨rfl, rfl⟩
end Go.Proofs.Ythppbefemfkccaa
