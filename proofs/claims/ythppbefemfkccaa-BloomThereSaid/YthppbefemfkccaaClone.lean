/- slices.Clone at bytes: a contract. -/
import Derived.Test.YthppbefemfkccaaBytes
import Derived.Lib.SliceRun
namespace Go.Proofs.Ythppbefemfkccaa
open Go.RowKit

theorem NewB.before {E : TypeId} {s : List UInt8} {w w1 : World} {e : Ending} {w' : World} (hk : Keeps [] w w1) (h : NewB E s w1 e w') : NewB E s w e w' := by
  obtain ⟨A, c, l, hl, he, ho, hn, hk1⟩ := h
  exact ⟨A, c, l, hl, he, ho, fun a ha => Nat.le_trans hk.size (hn a ha), hk.trans hk1 (by simp)⟩
theorem NewB.spec {E : TypeId} {s s' : List UInt8} {w : World} {e : Ending} {w' : World} (h : NewB E s w e w') (hs : s = s') : NewB E s' w e w' := hs ▸ h
/-- The same between two calls. -/
def NewStep (E : TypeId) (s : List UInt8) (w w' : World) (A : Option Addr) (c : Nat) (l : List UInt8) : Prop := Hid (l = s) ∧ OwnB E w' A c l ∧ (∀ a, A = some a → w.heap.size ≤ a.block) ∧ Keeps [] w w'
theorem NewB.step {E : TypeId} {s : List UInt8} {w : World} {e : Ending} {w' : World} (h : NewB E s w e w') : ∃ A c l, e = .returned (.slice A l.length c) ∧ NewStep E s w w' A c l := by
  obtain ⟨A, c, l, hl, he, ho, hn, hk1⟩ := h
  exact ⟨A, c, l, he, hl, ho, hn, hk1⟩
theorem NewStep.post {E : TypeId} {s : List UInt8} {w w' : World} {A : Option Addr} {c : Nat} {l : List UInt8} (h : NewStep E s w w' A c l) : NewB E s w (.returned (.slice A l.length c)) w' := ⟨A, c, l, h.1, rfl, h.2.1, h.2.2.1, h.2.2.2⟩

theorem own_empty (w : World) : OwnB 5 (w.alloc (.cells #[] 5)) (some ⟨w.heap.size, 0, none⟩) 0 [] := by
  refine ⟨by simp [encB], .inr ⟨w.heap.size, 0, #[], rfl, Nat.zero_le _, heap_alloc_new w _, Nat.le_refl _, by unfold maxLen; omega, by simp, by simp [encB]⟩⟩

theorem clone_any (A : Option Addr) (l : List UInt8) (c : Nat) (w : World) (hl : l.length ≤ 140737488355328) (hr : RdB w A l) :
    Calls Try.prog 26 #[.slice A l.length c] w (NewB 5 l w) := by
  have HR := Lib.hid hr
  clear hr
  rcases A with _ | ad
  · have h0 : l = [] := by
      rcases Nat.eq_zero_or_pos l.length with h | h
      · exact List.eq_nil_of_length_eq_zero h
      · obtain ⟨ad, e, _⟩ := HR.out.at_ (k := 0) h
        cases e
    subst h0
    have hn := Lib.run_eql_slice_nil (P := Try.prog) w 32 5 none 0 c 0 0 Try.underlying32
    go_enter Try.func26, Try.ntmps26
    go_wp2_with fail
    go_ret
    exact ⟨none, 0, [], rfl, rfl, OwnB.nil _ _, by simp, Keeps.refl [] w⟩
  · have hn := Lib.run_eql_slice_nil (P := Try.prog) w 32 5 (some ad) l.length c 0 0 Try.underlying32
    go_enter Try.func26, Try.ntmps26
    go_wp2_with (at_builtin; refine wpList_appendB rfl (.tmp 5) (.tmp 6) 32 5 rfl Try.underlying32 infoB (some ⟨w.heap.size, 0, none⟩) 0 [] rfl (own_empty w) (some ad) c l rfl (HR.out.alloc _) (by simp; omega) ?_; intro A' c' w' l' hl' ho hk hb)
    go_ret
    refine ⟨A', c', l', hl', rfl, ho, fun a ha => ?_, ((Keeps.refl [] w).alloc _).trans hk (by simp [blk])⟩
    rcases hb a ha with h | h
    · simp [blk] at h; omega
    · simp at h; omega
end Go.Proofs.Ythppbefemfkccaa
