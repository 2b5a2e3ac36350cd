/- What a row's condition on the rounds' numbers gives. -/
import Derived.Test.YtomleanoofoejaaDoorRows
import Derived.Test.YtomleanoofoejaaDoorKecTurn
import Derived.Lib.LaidTab
import Derived.ChangeSame
import Derived.ChangeVars
import Derived.JoinedOf
import Derived.LaidLaws
import Derived.LaidHandle
import Derived.Stop.Joined
import Derived.Deep.DeepLaidRun
import Derived.RowKit
namespace Go.Proofs.YtomleanoofoejaaDoor
open Go.ChangeShapes Go.WideShapes Go.RowKit

theorem gk : Tryd.prog.globalNamed "drydock/keccak.constants" = some 1 := by kernel_rfl
theorem data_k : (Rows.laid_drydock_keccak_constants : DataW Unit) = Lib.tabData .u64 (rcs.map fun (n : Nat) => (n : Int)) := by rfl
theorem con_of_laid {W : World} {rest : List (String × DataW Unit)} (h : laidMet Tryd.prog (("drydock/keccak.constants", Rows.laid_drydock_keccak_constants) :: rest) W) : Con W := by
  rw [data_k] at h
  have ht := Lib.tabIs_of_head gk (by kernel_rfl) Tryd.underlying92 Tryd.underlying53 (by kernel_rfl) (by kernel_rfl) h
  intro i hi
  have hv := World.var?_cell gk ht i
  rw [hv]
  simp [ln, List.getElem?_eq_getElem (show i < rcs.length from hi)]
end Go.Proofs.YtomleanoofoejaaDoor
