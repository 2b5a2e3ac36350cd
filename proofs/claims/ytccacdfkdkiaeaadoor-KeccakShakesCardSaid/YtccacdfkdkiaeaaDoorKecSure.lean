/- Two sums that are known. No program is named here. -/
import Derived.Test.YtccacdfkdkiaeaaDoorKecText
namespace Go.Proofs.YtccacdfkdkiaeaaDoor
def abcT : List UInt8 := [51, 97, 57, 56, 53, 100, 97, 55, 52, 102, 101, 50, 50, 53, 98, 50, 48, 52, 53, 99, 49, 55, 50, 100, 54, 98, 100, 51, 57, 48, 98, 100, 56, 53, 53, 102, 48, 56, 54, 101, 51, 101, 57, 100, 53, 50, 53, 98, 52, 54, 98, 102, 101, 50, 52, 53, 49, 49, 52, 51, 49, 53, 51, 50]
def nilT : List UInt8 := [97, 55, 102, 102, 99, 54, 102, 56, 98, 102, 49, 101, 100, 55, 54, 54, 53, 49, 99, 49, 52, 55, 53, 54, 97, 48, 54, 49, 100, 54, 54, 50, 102, 53, 56, 48, 102, 102, 52, 100, 101, 52, 51, 98, 52, 57, 102, 97, 56, 50, 100, 56, 48, 97, 52, 98, 56, 48, 102, 56, 52, 51, 52, 97]
set_option maxRecDepth 10000000 in
theorem abc_is : hexAll (outK (absAll beginK [97, 98, 99]) 6 32) = abcT := by decide +kernel
set_option maxRecDepth 10000000 in
theorem nil_is : hexAll (outK (absAll beginK []) 6 32) = nilT := by decide +kernel
end Go.Proofs.YtccacdfkdkiaeaaDoor
