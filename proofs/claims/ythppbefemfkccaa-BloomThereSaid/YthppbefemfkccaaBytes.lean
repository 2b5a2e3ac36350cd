/- This program's rows of its types' table, for bytes. -/
import Derived.Test.YthppbefemfkccaaProg
import Derived.Test.YthppbefemfkccaaArr
namespace Go.Proofs.Ythppbefemfkccaa
theorem infoB : (Try.prog.info? 5).map (fun i => (i.zero, i.size, i.bytes)) = some (some (.int .u8 0), 1, 1) := by kernel_rfl
end Go.Proofs.Ythppbefemfkccaa
