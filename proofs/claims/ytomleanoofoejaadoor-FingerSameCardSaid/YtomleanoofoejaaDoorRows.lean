/-
  NARROWER THAN 'FOR EVERY INPUT', by the rows' own cells (each row's printed sentence says how): FingerSame: laid · FingerLess: laid · FingerStrong: laid · FingerKinds: laid.
  DERIVED. THE GIVEN ROWS OF THIS SEAT. 4 by the template 'for every input the law returns true; each argument reads behind the call as it read before'; 0 by the template 'total and deterministic' (their statements: YtomleanoofoejaaDoorTotals.lean).
  GIVEN WITH THE SEED: the statements are not yours to turn. If you find one false, say at which input.
  Laid BY PROGRAM, IN A SANDBOX (cutbox-rows.mjs): the forced cells as the released guide's own fill.sh prints them over the translation 1acbca94689ac752… (all of the seat's roots in one cut). By AI agents, Wed Nov 11 2026. No macro, syntax, notation, axiom, sorry.
-/
import Derived.Test.YtomleanoofoejaaDoorChecked
import GoSem.Claim
import GoSem.ClaimJoined
import GoSem.ClaimMapViews
import Derived.JoinedTies
import Derived.KernelRfl
namespace Go.Proofs.YtomleanoofoejaaDoor
/- THE CELL 'sum', in the pinned program and in every row, IS THE sha256 OF THE DUMP (.gsa) THAT YtomleanoofoejaaDoorProg.lean LOADS. Nothing in Lean hashes anything: it is a label: what it is worth is what the hold of that sum in a sandbox is worth. -/
noncomputable def Tryd.pinned : Pinned := { name := "ytomleanoofoejaadoor", sum := "1acbca94689ac752d3fec2389df40a4de25f26f184d00140cfd2e3f97fb2d5ad", checked := Tryd.checked }
namespace Rows
def none {H : Type} : Left H := { results := [], args := [] }

/- WHAT THE LISTED PACKAGE-LEVEL VARIABLES READ AS WHEN THE CALL BEGINS. Each datum BY PROGRAM (the guide's laid-datum.mjs) off the statement by which the dump's own 'gosem.cut.vars' lays the variable. In a bare row this is a premise. The card (YtomleanoofoejaaDoorCards.lean) ties it to the program's text. -/
def laid_errors_errorType {H : Type} : DataW H := .iface "internal/reflectlite.rtype" (.agg [.ptr (.lit (.string [101, 114, 114, 111, 114]))])
def laid_drydock_keccak_constants {H : Type} : DataW H := .agg [.lit (.int .u64 1), .lit (.int .u64 32898), .lit (.int .u64 9223372036854808714), .lit (.int .u64 9223372039002292224), .lit (.int .u64 32907), .lit (.int .u64 2147483649), .lit (.int .u64 9223372039002292353), .lit (.int .u64 9223372036854808585), .lit (.int .u64 138), .lit (.int .u64 136), .lit (.int .u64 2147516425), .lit (.int .u64 2147483658), .lit (.int .u64 2147516555), .lit (.int .u64 9223372036854775947), .lit (.int .u64 9223372036854808713), .lit (.int .u64 9223372036854808579), .lit (.int .u64 9223372036854808578), .lit (.int .u64 9223372036854775936), .lit (.int .u64 32778), .lit (.int .u64 9223372039002259466), .lit (.int .u64 9223372039002292353), .lit (.int .u64 9223372036854808704), .lit (.int .u64 2147483649), .lit (.int .u64 9223372039002292232)]

/-- 'drydocklaw06.FingerSame': WHATEVER THE INPUT: true; the input reads as it did. -/
def fingerSameSpec : ChangeSpec := { name := "fingerSame", fn := fun _ => fun
  | [d1, d2] => { results := [.lit (.bool true)], args := [d1, d2] }
  | _ => none }
def fingerSameRow : OpenClaim := { program := "ytomleanoofoejaadoor", sum := "1acbca94689ac752d3fec2389df40a4de25f26f184d00140cfd2e3f97fb2d5ad", func := "drydock/drydocklaw06.FingerSame", spec := "fingerSame", inPlace := ["internal/reflectlite.ValueOf", "(internal/reflectlite.Value).Type", "(internal/reflectlite.Value).IsNil", "internal/reflectlite.TypeOf", "(internal/reflectlite.Value).Elem", "(internal/reflectlite.Value).Set"], unfollowed := true, recurses := true, named := ["drydock/keccak.constants", "errors.errorType"], apart := false, laid := [("errors.errorType", laid_errors_errorType), ("drydock/keccak.constants", laid_drydock_keccak_constants)] }
def FingerSameSaid : Prop := fingerSameRow.holds Tryd.pinned (OpenSpec.ofChange fingerSameSpec)

/-- ITS FALSE NEIGHBOUR: 'it returns false'. Refute it at one input. -/
def fingerSameWrong : ChangeSpec := { name := "fingerSame", fn := fun _ => fun
  | [d1, d2] => { results := [.lit (.bool false)], args := [d1, d2] }
  | _ => none }
def FingerSameWrongFalsely : Prop := fingerSameRow.holds Tryd.pinned (OpenSpec.ofChange fingerSameWrong)

/-- 'drydocklaw06.FingerLess': WHATEVER THE INPUT: true; the input reads as it did. -/
def fingerLessSpec : ChangeSpec := { name := "fingerLess", fn := fun _ => fun
  | [d1, d2] => { results := [.lit (.bool true)], args := [d1, d2] }
  | _ => none }
def fingerLessRow : OpenClaim := { program := "ytomleanoofoejaadoor", sum := "1acbca94689ac752d3fec2389df40a4de25f26f184d00140cfd2e3f97fb2d5ad", func := "drydock/drydocklaw06.FingerLess", spec := "fingerLess", inPlace := ["internal/reflectlite.ValueOf", "(internal/reflectlite.Value).Type", "(internal/reflectlite.Value).IsNil", "internal/reflectlite.TypeOf", "(internal/reflectlite.Value).Elem", "(internal/reflectlite.Value).Set"], unfollowed := true, recurses := true, named := ["drydock/keccak.constants", "errors.errorType"], apart := false, laid := [("errors.errorType", laid_errors_errorType), ("drydock/keccak.constants", laid_drydock_keccak_constants)] }
def FingerLessSaid : Prop := fingerLessRow.holds Tryd.pinned (OpenSpec.ofChange fingerLessSpec)

/-- ITS FALSE NEIGHBOUR: 'it returns false'. Refute it at one input. -/
def fingerLessWrong : ChangeSpec := { name := "fingerLess", fn := fun _ => fun
  | [d1, d2] => { results := [.lit (.bool false)], args := [d1, d2] }
  | _ => none }
def FingerLessWrongFalsely : Prop := fingerLessRow.holds Tryd.pinned (OpenSpec.ofChange fingerLessWrong)

/-- 'drydocklaw06.FingerStrong': WHATEVER THE INPUT: true; the input reads as it did. -/
def fingerStrongSpec : ChangeSpec := { name := "fingerStrong", fn := fun _ => fun
  | [d] => { results := [.lit (.bool true)], args := [d] }
  | _ => none }
def fingerStrongRow : OpenClaim := { program := "ytomleanoofoejaadoor", sum := "1acbca94689ac752d3fec2389df40a4de25f26f184d00140cfd2e3f97fb2d5ad", func := "drydock/drydocklaw06.FingerStrong", spec := "fingerStrong", inPlace := ["internal/reflectlite.ValueOf", "(internal/reflectlite.Value).Type", "(internal/reflectlite.Value).IsNil", "internal/reflectlite.TypeOf", "(internal/reflectlite.Value).Elem", "(internal/reflectlite.Value).Set"], unfollowed := true, recurses := true, named := ["drydock/keccak.constants", "errors.errorType"], apart := false, laid := [("errors.errorType", laid_errors_errorType), ("drydock/keccak.constants", laid_drydock_keccak_constants)] }
def FingerStrongSaid : Prop := fingerStrongRow.holds Tryd.pinned (OpenSpec.ofChange fingerStrongSpec)

/-- ITS FALSE NEIGHBOUR: 'it returns false'. Refute it at one input. -/
def fingerStrongWrong : ChangeSpec := { name := "fingerStrong", fn := fun _ => fun
  | [d] => { results := [.lit (.bool false)], args := [d] }
  | _ => none }
def FingerStrongWrongFalsely : Prop := fingerStrongRow.holds Tryd.pinned (OpenSpec.ofChange fingerStrongWrong)

/-- 'drydocklaw06.FingerKinds': WHATEVER THE INPUT: true; the input reads as it did. -/
def fingerKindsSpec : ChangeSpec := { name := "fingerKinds", fn := fun _ => fun
  | [d1, d2, d3] => { results := [.lit (.bool true)], args := [d1, d2, d3] }
  | _ => none }
def fingerKindsRow : OpenClaim := { program := "ytomleanoofoejaadoor", sum := "1acbca94689ac752d3fec2389df40a4de25f26f184d00140cfd2e3f97fb2d5ad", func := "drydock/drydocklaw06.FingerKinds", spec := "fingerKinds", inPlace := ["internal/reflectlite.ValueOf", "(internal/reflectlite.Value).Type", "(internal/reflectlite.Value).IsNil", "internal/reflectlite.TypeOf", "(internal/reflectlite.Value).Elem", "(internal/reflectlite.Value).Set"], unfollowed := true, recurses := true, named := ["drydock/keccak.constants", "errors.errorType"], apart := false, laid := [("errors.errorType", laid_errors_errorType), ("drydock/keccak.constants", laid_drydock_keccak_constants)] }
def FingerKindsSaid : Prop := fingerKindsRow.holds Tryd.pinned (OpenSpec.ofChange fingerKindsSpec)

/-- ITS FALSE NEIGHBOUR: 'it returns false'. Refute it at one input. -/
def fingerKindsWrong : ChangeSpec := { name := "fingerKinds", fn := fun _ => fun
  | [d1, d2, d3] => { results := [.lit (.bool false)], args := [d1, d2, d3] }
  | _ => none }
def FingerKindsWrongFalsely : Prop := fingerKindsRow.holds Tryd.pinned (OpenSpec.ofChange fingerKindsWrong)

/- THE SECOND FORM. 'bulk': how many values and letters a reading holds, each counted each time it is reached (what is shared counts as often as it is met; a slice's spare places count too). A statement '..UptoSaid' is the law's where the arguments, and the package variables that the reading takes, are together of bulk at most 1048576: NARROWER than '..Said'. Prove '..Said' where nothing that the law and all that it calls make is longer than what came in: it says more and counts as full. Else prove '..UptoSaid'. A law counts once. -/
mutual
def uptoBulk {H : Type} : DataW H → Nat
  | .lit (.string bytes) => bytes.length + 1
  | .lit _ => 1
  | .nil => 1
  | .ptr d => uptoBulk d + 1
  | .slice elems spare => uptoBulkAll elems + uptoBulkAll spare + 1
  | .agg parts => uptoBulkAll parts + 1
  | .iface _ d => uptoBulk d + 1
  | .map entries => uptoBulkEntries entries + 1
  | .held _ => 1
def uptoBulkAll {H : Type} : List (DataW H) → Nat
  | [] => 0
  | d :: r => uptoBulk d + uptoBulkAll r
def uptoBulkEntries {H : Type} : List (Lit × DataW H) → Nat
  | [] => 0
  | x :: r => uptoBulkEntry x + uptoBulkEntries r
def uptoBulkEntry {H : Type} : Lit × DataW H → Nat
  | (.string bytes, d) => bytes.length + uptoBulk d + 1
  | (_, d) => uptoBulk d + 1
 end
def uptoSmall : (H : Type) → List (DataW H) → Bool := fun _ ds => decide (uptoBulkAll ds ≤ 1048576)
def OpenSpec.upto (s : _root_.Go.ChangeSpec) : _root_.Go.OpenSpec := { _root_.Go.OpenSpec.ofChange s with cond := some uptoSmall }

/-- 'drydocklaw06.FingerSame', WHERE WHAT IT READS IS OF BULK AT MOST 1048576: true; the input reads as it did. -/
def fingerSameUptoRow : OpenClaim := { program := "ytomleanoofoejaadoor", sum := "1acbca94689ac752d3fec2389df40a4de25f26f184d00140cfd2e3f97fb2d5ad", func := "drydock/drydocklaw06.FingerSame", spec := "fingerSame", inPlace := ["internal/reflectlite.ValueOf", "(internal/reflectlite.Value).Type", "(internal/reflectlite.Value).IsNil", "internal/reflectlite.TypeOf", "(internal/reflectlite.Value).Elem", "(internal/reflectlite.Value).Set"], unfollowed := true, recurses := true, named := ["drydock/keccak.constants", "errors.errorType"], apart := false, laid := [("errors.errorType", laid_errors_errorType), ("drydock/keccak.constants", laid_drydock_keccak_constants)], narrowed := true }
def FingerSameUptoSaid : Prop := fingerSameUptoRow.holds Tryd.pinned (OpenSpec.upto fingerSameSpec)

/-- 'drydocklaw06.FingerLess', WHERE WHAT IT READS IS OF BULK AT MOST 1048576: true; the input reads as it did. -/
def fingerLessUptoRow : OpenClaim := { program := "ytomleanoofoejaadoor", sum := "1acbca94689ac752d3fec2389df40a4de25f26f184d00140cfd2e3f97fb2d5ad", func := "drydock/drydocklaw06.FingerLess", spec := "fingerLess", inPlace := ["internal/reflectlite.ValueOf", "(internal/reflectlite.Value).Type", "(internal/reflectlite.Value).IsNil", "internal/reflectlite.TypeOf", "(internal/reflectlite.Value).Elem", "(internal/reflectlite.Value).Set"], unfollowed := true, recurses := true, named := ["drydock/keccak.constants", "errors.errorType"], apart := false, laid := [("errors.errorType", laid_errors_errorType), ("drydock/keccak.constants", laid_drydock_keccak_constants)], narrowed := true }
def FingerLessUptoSaid : Prop := fingerLessUptoRow.holds Tryd.pinned (OpenSpec.upto fingerLessSpec)

/-- 'drydocklaw06.FingerStrong', WHERE WHAT IT READS IS OF BULK AT MOST 1048576: true; the input reads as it did. -/
def fingerStrongUptoRow : OpenClaim := { program := "ytomleanoofoejaadoor", sum := "1acbca94689ac752d3fec2389df40a4de25f26f184d00140cfd2e3f97fb2d5ad", func := "drydock/drydocklaw06.FingerStrong", spec := "fingerStrong", inPlace := ["internal/reflectlite.ValueOf", "(internal/reflectlite.Value).Type", "(internal/reflectlite.Value).IsNil", "internal/reflectlite.TypeOf", "(internal/reflectlite.Value).Elem", "(internal/reflectlite.Value).Set"], unfollowed := true, recurses := true, named := ["drydock/keccak.constants", "errors.errorType"], apart := false, laid := [("errors.errorType", laid_errors_errorType), ("drydock/keccak.constants", laid_drydock_keccak_constants)], narrowed := true }
def FingerStrongUptoSaid : Prop := fingerStrongUptoRow.holds Tryd.pinned (OpenSpec.upto fingerStrongSpec)

/-- 'drydocklaw06.FingerKinds', WHERE WHAT IT READS IS OF BULK AT MOST 1048576: true; the input reads as it did. -/
def fingerKindsUptoRow : OpenClaim := { program := "ytomleanoofoejaadoor", sum := "1acbca94689ac752d3fec2389df40a4de25f26f184d00140cfd2e3f97fb2d5ad", func := "drydock/drydocklaw06.FingerKinds", spec := "fingerKinds", inPlace := ["internal/reflectlite.ValueOf", "(internal/reflectlite.Value).Type", "(internal/reflectlite.Value).IsNil", "internal/reflectlite.TypeOf", "(internal/reflectlite.Value).Elem", "(internal/reflectlite.Value).Set"], unfollowed := true, recurses := true, named := ["drydock/keccak.constants", "errors.errorType"], apart := false, laid := [("errors.errorType", laid_errors_errorType), ("drydock/keccak.constants", laid_drydock_keccak_constants)], narrowed := true }
def FingerKindsUptoSaid : Prop := fingerKindsUptoRow.holds Tryd.pinned (OpenSpec.upto fingerKindsSpec)

end Rows
end Go.Proofs.YtomleanoofoejaaDoor
