/- This program's rows of its types' table, for bytes. -/
import Derived.Test.YtpflfbenadgknaaDoorProg
import Derived.Test.YtpflfbenadgknaaDoorArr
namespace Go.Proofs.YtpflfbenadgknaaDoor
theorem infoB : (Tryd.prog.info? 5).map (fun i => (i.zero, i.size, i.bytes)) = some (some (.int .u8 0), 1, 1) := by kernel_rfl
theorem eq_arr4 (a b : List UInt8) (ha : a.length = 4) (hb : b.length = 4) (w : World) : (Op.equalIn 10000 50 (.agg (encB a).toArray) (.agg (encB b).toArray)).run Tryd.prog w = .ok (a == b) w :=
  run_equalIn_arrB w Tryd.underlying50 Tryd.underlying5 (by kernel_rfl) (by kernel_rfl) a b ha hb
end Go.Proofs.YtpflfbenadgknaaDoor
