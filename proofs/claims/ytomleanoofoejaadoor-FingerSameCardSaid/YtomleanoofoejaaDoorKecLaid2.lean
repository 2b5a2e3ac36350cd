/- What the row's condition on the rounds' numbers and on package errors' variable gives, and a world that meets it. -/
import Derived.Test.YtomleanoofoejaaDoorKecLaid0
import Derived.Test.YtomleanoofoejaaDoorLaid0
namespace Go.Proofs.YtomleanoofoejaaDoor
open Go.ChangeShapes Go.WideShapes Go.RowKit

def laidEK : List (String × DataW Unit) := [("errors.errorType", Rows.laid_errors_errorType), ("drydock/keccak.constants", Rows.laid_drydock_keccak_constants)]
def laidK1 : List (String × DataW Unit) := [("drydock/keccak.constants", Rows.laid_drydock_keccak_constants)]
theorem both_of_laid {W : World} (h : laidMetH Tryd.prog laidEK W) : Con W ∧ HT W := by
  have h' : laidMet Tryd.prog laidK1 W ∧ handlesMet Tryd.prog laidE W := h
  exact ⟨con_of_laid (rest := []) h'.1, handle_met h'.2⟩
/-- A world that meets the condition: the settled one, the variables' cells laid. -/
noncomputable def laidWorld (os : Os) : World :=
  let w0 := World.holding Tryd.prog os ⟨#[], #[], []⟩
  { w0 with heap := (w0.heap.modify 1 fun
      | .cells _ t frozen => .cells (encN rcs).toArray t frozen
      | o => o).modify 0 fun
      | .cells _ t frozen => .cells #[.iface 78 (.agg #[.pointer (some ⟨2, 27, none⟩)])] t frozen
      | o => o }
theorem laidWorld_met (os : Os) (args : Array Value) : laidMetH Tryd.prog laidEK ((laidWorld os).forCall (fun _ _ => 0) ⟨#[], args, []⟩).memory :=
  laidMetH_of_parts (l := laidEK) (laidMet_of_run3 (l := laidK1) 20 (by kernel_rfl) (by kernel_rfl) (by kernel_rfl)) (by kernel_rfl)
end Go.Proofs.YtomleanoofoejaaDoor
