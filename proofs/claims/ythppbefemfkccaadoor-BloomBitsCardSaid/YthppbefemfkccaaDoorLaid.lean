/- What the row's condition on package errors' variable gives, and a world that meets it. -/
import Derived.Test.YthppbefemfkccaaDoorLaid0
namespace Go.Proofs.YthppbefemfkccaaDoor
open Go.ChangeShapes Go.WideShapes Go.RowKit

theorem handle_of_laid {W : World} (h : laidMetH Tryd.prog laidE W) : HT W := by
  have h' : laidMet Tryd.prog [] W ∧ handlesMet Tryd.prog laidE W := h
  exact handle_met h'.2

/-- A world that meets the condition: the settled one, the variable's cell laid. -/
noncomputable def laidWorld (os : Os) : World :=
  let w0 := World.holding Tryd.prog os ⟨#[], #[], []⟩
  { w0 with heap := w0.heap.modify 0 fun
      | .cells _ t frozen => .cells #[.iface 111 (.agg #[.pointer (some ⟨1, 26, none⟩)])] t frozen
      | o => o }
theorem laidWorld_met (os : Os) (args : Array Value) : laidMetH Tryd.prog laidE ((laidWorld os).forCall (fun _ _ => 0) ⟨#[], args, []⟩).memory :=
  laidMetH_of_parts (laidMet_nil _ _) (by kernel_rfl)
end Go.Proofs.YthppbefemfkccaaDoor
