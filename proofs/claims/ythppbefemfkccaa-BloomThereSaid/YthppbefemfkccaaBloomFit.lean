/- No filter of such a size: a contract. -/
import Derived.Test.YthppbefemfkccaaBloomBits
import Derived.Test.YthppbefemfkccaaErrV
namespace Go.Proofs.Ythppbefemfkccaa
open Go.RowKit
attribute [local irreducible] bitsK orAll

def FitB (x y : Int) : Prop := 1 ≤ x ∧ x ≤ 1048576 ∧ 1 ≤ y ∧ y ≤ 16
theorem noFit_four {x y : Int} (h : ¬ FitB x y) : (x < 1) ∨ (¬ x < 1 ∧ 1048576 < x) ∨ (¬ x < 1 ∧ ¬ 1048576 < x ∧ y < 1) ∨ (¬ x < 1 ∧ ¬ 1048576 < x ∧ ¬ y < 1 ∧ 16 < y) := by
  unfold FitB at h; omega
theorem bnew_no (x y : Int) (w : World) (h : ¬ FitB x y) :
    Calls Try.prog 5 #[.int .i64 x, .int .i64 y] w fun e w' => e = .returned (.tuple #[.pointer none, errV 1]) ∧ Keeps [] w w' := by
  rw [errV_other (by decide)]
  rcases noFit_four h with h1 | ⟨h1, h2⟩ | ⟨h1, h2, h3⟩ | ⟨h1, h2, h3, h4⟩
  all_goals
    clear h
    go_enter Try.func5, Try.ntmps5
    go_wp2_with fail
    go_ret2
    exact ⟨rfl, Keeps.refl [] w⟩
end Go.Proofs.Ythppbefemfkccaa
