/- What the row's condition on the rounds' numbers gives, and a world that meets it. -/
import Derived.Test.YtccacdfkdkiaeaaDoorKecLaid0
namespace Go.Proofs.YtccacdfkdkiaeaaDoor
open Go.ChangeShapes Go.WideShapes Go.RowKit

def laidK : List (String × DataW Unit) := [("drydock/keccak.constants", Rows.laid_drydock_keccak_constants)]
theorem con_of_row {W : World} (h : laidMetH Tryd.prog laidK W) : Con W := con_of_laid (rest := []) h

/-- A world that meets the condition: the settled one, the variable's cells laid. -/
noncomputable def laidWorld (os : Os) : World :=
  let w0 := World.holding Tryd.prog os ⟨#[], #[], []⟩
  { w0 with heap := w0.heap.modify 0 fun
      | .cells _ t frozen => .cells (encN rcs).toArray t frozen
      | o => o }
theorem laidWorld_met (os : Os) (args : Array Value) : laidMetH Tryd.prog laidK ((laidWorld os).forCall (fun _ _ => 0) ⟨#[], args, []⟩).memory :=
  laidMet_of_run3 (l := laidK) 20 (by kernel_rfl) (by kernel_rfl) (by kernel_rfl)
end Go.Proofs.YtccacdfkdkiaeaaDoor
