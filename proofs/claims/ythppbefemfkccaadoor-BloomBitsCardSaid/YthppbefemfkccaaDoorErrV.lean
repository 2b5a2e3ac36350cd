/- An error of the program by its number: nil for 0. -/
import Derived.Test.YthppbefemfkccaaDoorProg
import Derived.Test.YthppbefemfkccaaDoorBase
namespace Go.Proofs.YthppbefemfkccaaDoor
open Go.RowKit
def errV (n : Int) : Value := if n = 0 then .nilIface else .iface 55 (.int .i64 n)
theorem errV_zero : errV 0 = .nilIface := rfl
theorem errV_other {n : Int} (h : n ≠ 0) : errV n = .iface 55 (.int .i64 n) := if_neg h
end Go.Proofs.YthppbefemfkccaaDoor
