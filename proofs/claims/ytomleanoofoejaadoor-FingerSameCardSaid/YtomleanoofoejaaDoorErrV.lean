/- An error of the program by its number: nil for 0. -/
import Derived.Test.YtomleanoofoejaaDoorProg
import Derived.Test.YtomleanoofoejaaDoorBase
namespace Go.Proofs.YtomleanoofoejaaDoor
open Go.RowKit
def errV (n : Int) : Value := if n = 0 then .nilIface else .iface 44 (.int .i64 n)
theorem errV_zero : errV 0 = .nilIface := rfl
theorem errV_other {n : Int} (h : n ≠ 0) : errV n = .iface 44 (.int .i64 n) := if_neg h
end Go.Proofs.YtomleanoofoejaaDoor
