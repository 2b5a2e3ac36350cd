/- An error of the program by its number: nil for 0. -/
import Derived.Test.YthppbefemfkccaaProg
import Derived.Test.YthppbefemfkccaaBase
namespace Go.Proofs.Ythppbefemfkccaa
open Go.RowKit
def errV (n : Int) : Value := if n = 0 then .nilIface else .iface 39 (.int .i64 n)
theorem errV_zero : errV 0 = .nilIface := rfl
theorem errV_other {n : Int} (h : n ≠ 0) : errV n = .iface 39 (.int .i64 n) := if_neg h
end Go.Proofs.Ythppbefemfkccaa
