/-
  NARROWER THAN 'FOR EVERY INPUT', by the rows' own cells (each row's printed sentence says how): KeccakSums: laid · KeccakParts: laid · KeccakTexts: laid · KeccakBegins: laid · KeccakShakes: laid.
  DERIVED. THE GIVEN ROWS OF THIS SEAT. 5 by the template 'for every input the law returns true; each argument reads behind the call as it read before'; 0 by the template 'total and deterministic' (their statements: YtccacdfkdkiaeaaDoorTotals.lean).
  GIVEN WITH THE SEED: the statements are not yours to turn. If you find one false, say at which input.
  Laid BY PROGRAM, IN A SANDBOX (cutbox-rows.mjs): the forced cells as the released guide's own fill.sh prints them over the translation 46a588734c9e06c0… (all of the seat's roots in one cut). By AI agents, Wed Nov 11 2026. No macro, syntax, notation, axiom, sorry.
-/
import Derived.Test.YtccacdfkdkiaeaaDoorChecked
import GoSem.Claim
import GoSem.ClaimJoined
import GoSem.ClaimMapViews
import Derived.JoinedTies
import Derived.KernelRfl
namespace Go.Proofs.YtccacdfkdkiaeaaDoor
/- THE CELL 'sum', in the pinned program and in every row, IS THE sha256 OF THE DUMP (.gsa) THAT YtccacdfkdkiaeaaDoorProg.lean LOADS. Nothing in Lean hashes anything: it is a label: what it is worth is what the hold of that sum in a sandbox is worth. -/
noncomputable def Tryd.pinned : Pinned := { name := "ytccacdfkdkiaeaadoor", sum := "46a588734c9e06c04d5de64f5abbc7d6373ec6e9472db5ad207276c6f21770d9", checked := Tryd.checked }
namespace Rows
def none {H : Type} : Left H := { results := [], args := [] }

/- WHAT THE LISTED PACKAGE-LEVEL VARIABLES READ AS WHEN THE CALL BEGINS. Each datum BY PROGRAM (the guide's laid-datum.mjs) off the statement by which the dump's own 'gosem.cut.vars' lays the variable. In a bare row this is a premise. The card (YtccacdfkdkiaeaaDoorCards.lean) ties it to the program's text. -/
def laid_drydock_keccak_constants {H : Type} : DataW H := .agg [.lit (.int .u64 1), .lit (.int .u64 32898), .lit (.int .u64 9223372036854808714), .lit (.int .u64 9223372039002292224), .lit (.int .u64 32907), .lit (.int .u64 2147483649), .lit (.int .u64 9223372039002292353), .lit (.int .u64 9223372036854808585), .lit (.int .u64 138), .lit (.int .u64 136), .lit (.int .u64 2147516425), .lit (.int .u64 2147483658), .lit (.int .u64 2147516555), .lit (.int .u64 9223372036854775947), .lit (.int .u64 9223372036854808713), .lit (.int .u64 9223372036854808579), .lit (.int .u64 9223372036854808578), .lit (.int .u64 9223372036854775936), .lit (.int .u64 32778), .lit (.int .u64 9223372039002259466), .lit (.int .u64 9223372039002292353), .lit (.int .u64 9223372036854808704), .lit (.int .u64 2147483649), .lit (.int .u64 9223372039002292232)]
def laid_errors_errorType {H : Type} : DataW H := .iface "internal/reflectlite.rtype" (.agg [.ptr (.lit (.string [101, 114, 114, 111, 114]))])

/-- 'drydocklaw05.KeccakSums': WHATEVER THE INPUT: true; the input reads as it did. -/
def keccakSumsSpec : ChangeSpec := { name := "keccakSums", fn := fun _ => fun
  | [d] => { results := [.lit (.bool true)], args := [d] }
  | _ => none }
def keccakSumsRow : OpenClaim := { program := "ytccacdfkdkiaeaadoor", sum := "46a588734c9e06c04d5de64f5abbc7d6373ec6e9472db5ad207276c6f21770d9", func := "drydock/drydocklaw05.KeccakSums", spec := "keccakSums", named := ["drydock/keccak.constants"], apart := false, laid := [("drydock/keccak.constants", laid_drydock_keccak_constants)] }
def KeccakSumsSaid : Prop := keccakSumsRow.holds Tryd.pinned (OpenSpec.ofChange keccakSumsSpec)

/-- ITS FALSE NEIGHBOUR: 'it returns false'. Refute it at one input. -/
def keccakSumsWrong : ChangeSpec := { name := "keccakSums", fn := fun _ => fun
  | [d] => { results := [.lit (.bool false)], args := [d] }
  | _ => none }
def KeccakSumsWrongFalsely : Prop := keccakSumsRow.holds Tryd.pinned (OpenSpec.ofChange keccakSumsWrong)

/-- 'drydocklaw05.KeccakParts': WHATEVER THE INPUT: true; the input reads as it did. -/
def keccakPartsSpec : ChangeSpec := { name := "keccakParts", fn := fun _ => fun
  | [d] => { results := [.lit (.bool true)], args := [d] }
  | _ => none }
def keccakPartsRow : OpenClaim := { program := "ytccacdfkdkiaeaadoor", sum := "46a588734c9e06c04d5de64f5abbc7d6373ec6e9472db5ad207276c6f21770d9", func := "drydock/drydocklaw05.KeccakParts", spec := "keccakParts", named := ["drydock/keccak.constants"], apart := false, laid := [("drydock/keccak.constants", laid_drydock_keccak_constants)] }
def KeccakPartsSaid : Prop := keccakPartsRow.holds Tryd.pinned (OpenSpec.ofChange keccakPartsSpec)

/-- ITS FALSE NEIGHBOUR: 'it returns false'. Refute it at one input. -/
def keccakPartsWrong : ChangeSpec := { name := "keccakParts", fn := fun _ => fun
  | [d] => { results := [.lit (.bool false)], args := [d] }
  | _ => none }
def KeccakPartsWrongFalsely : Prop := keccakPartsRow.holds Tryd.pinned (OpenSpec.ofChange keccakPartsWrong)

/-- 'drydocklaw05.KeccakTexts': WHATEVER THE INPUT: true; the input reads as it did. -/
def keccakTextsSpec : ChangeSpec := { name := "keccakTexts", fn := fun _ => fun
  | [d] => { results := [.lit (.bool true)], args := [d] }
  | _ => none }
def keccakTextsRow : OpenClaim := { program := "ytccacdfkdkiaeaadoor", sum := "46a588734c9e06c04d5de64f5abbc7d6373ec6e9472db5ad207276c6f21770d9", func := "drydock/drydocklaw05.KeccakTexts", spec := "keccakTexts", named := ["drydock/keccak.constants"], apart := false, laid := [("drydock/keccak.constants", laid_drydock_keccak_constants)] }
def KeccakTextsSaid : Prop := keccakTextsRow.holds Tryd.pinned (OpenSpec.ofChange keccakTextsSpec)

/-- ITS FALSE NEIGHBOUR: 'it returns false'. Refute it at one input. -/
def keccakTextsWrong : ChangeSpec := { name := "keccakTexts", fn := fun _ => fun
  | [d] => { results := [.lit (.bool false)], args := [d] }
  | _ => none }
def KeccakTextsWrongFalsely : Prop := keccakTextsRow.holds Tryd.pinned (OpenSpec.ofChange keccakTextsWrong)

/-- 'drydocklaw05.KeccakBegins': WHATEVER THE INPUT: true; the input reads as it did. -/
def keccakBeginsSpec : ChangeSpec := { name := "keccakBegins", fn := fun _ => fun
  | [d1, d2, d3] => { results := [.lit (.bool true)], args := [d1, d2, d3] }
  | _ => none }
def keccakBeginsRow : OpenClaim := { program := "ytccacdfkdkiaeaadoor", sum := "46a588734c9e06c04d5de64f5abbc7d6373ec6e9472db5ad207276c6f21770d9", func := "drydock/drydocklaw05.KeccakBegins", spec := "keccakBegins", named := ["drydock/keccak.constants"], apart := false, laid := [("drydock/keccak.constants", laid_drydock_keccak_constants)] }
def KeccakBeginsSaid : Prop := keccakBeginsRow.holds Tryd.pinned (OpenSpec.ofChange keccakBeginsSpec)

/-- ITS FALSE NEIGHBOUR: 'it returns false'. Refute it at one input. -/
def keccakBeginsWrong : ChangeSpec := { name := "keccakBegins", fn := fun _ => fun
  | [d1, d2, d3] => { results := [.lit (.bool false)], args := [d1, d2, d3] }
  | _ => none }
def KeccakBeginsWrongFalsely : Prop := keccakBeginsRow.holds Tryd.pinned (OpenSpec.ofChange keccakBeginsWrong)

/-- 'drydocklaw05.KeccakShakes': WHATEVER THE INPUT: true; the input reads as it did. -/
def keccakShakesSpec : ChangeSpec := { name := "keccakShakes", fn := fun _ => fun
  | [d1, d2] => { results := [.lit (.bool true)], args := [d1, d2] }
  | _ => none }
def keccakShakesRow : OpenClaim := { program := "ytccacdfkdkiaeaadoor", sum := "46a588734c9e06c04d5de64f5abbc7d6373ec6e9472db5ad207276c6f21770d9", func := "drydock/drydocklaw05.KeccakShakes", spec := "keccakShakes", inPlace := ["internal/reflectlite.ValueOf", "(internal/reflectlite.Value).Type", "(internal/reflectlite.Value).IsNil", "internal/reflectlite.TypeOf", "(internal/reflectlite.Value).Elem", "(internal/reflectlite.Value).Set"], unfollowed := true, recurses := true, named := ["drydock/keccak.constants", "errors.errorType"], apart := false, laid := [("errors.errorType", laid_errors_errorType), ("drydock/keccak.constants", laid_drydock_keccak_constants)] }
def KeccakShakesSaid : Prop := keccakShakesRow.holds Tryd.pinned (OpenSpec.ofChange keccakShakesSpec)

/-- ITS FALSE NEIGHBOUR: 'it returns false'. Refute it at one input. -/
def keccakShakesWrong : ChangeSpec := { name := "keccakShakes", fn := fun _ => fun
  | [d1, d2] => { results := [.lit (.bool false)], args := [d1, d2] }
  | _ => none }
def KeccakShakesWrongFalsely : Prop := keccakShakesRow.holds Tryd.pinned (OpenSpec.ofChange keccakShakesWrong)

/- THE SECOND FORM. 'bulk': how many values and letters a reading holds, each counted each time it is reached (what is shared counts as often as it is met; a slice's spare places count too). A statement '..UptoSaid' is the law's where the arguments, and the package variables that the reading takes, are together of bulk at most 1048576: NARROWER than '..Said'. Prove '..Said' where nothing that the law and all that it calls make is longer than what came in: it says more and counts as full. Else prove '..UptoSaid'. A law counts once. -/
mutual
def uptoBulk {H : Type} : DataW H → Nat
  | .lit (.string bytes) => bytes.length + 1
  | .lit _ => 1
  | .nil => 1
  | .ptr d => uptoBulk d + 1
  | .slice elems spare => uptoBulkAll elems + uptoBulkAll spare + 1
  | .agg parts => uptoBulkAll parts + 1
  | .iface _ d => uptoBulk d + 1
  | .map entries => uptoBulkEntries entries + 1
  | .held _ => 1
def uptoBulkAll {H : Type} : List (DataW H) → Nat
  | [] => 0
  | d :: r => uptoBulk d + uptoBulkAll r
def uptoBulkEntries {H : Type} : List (Lit × DataW H) → Nat
  | [] => 0
  | x :: r => uptoBulkEntry x + uptoBulkEntries r
def uptoBulkEntry {H : Type} : Lit × DataW H → Nat
  | (.string bytes, d) => bytes.length + uptoBulk d + 1
  | (_, d) => uptoBulk d + 1
 end
def uptoSmall : (H : Type) → List (DataW H) → Bool := fun _ ds => decide (uptoBulkAll ds ≤ 1048576)
def OpenSpec.upto (s : _root_.Go.ChangeSpec) : _root_.Go.OpenSpec := { _root_.Go.OpenSpec.ofChange s with cond := some uptoSmall }

/-- 'drydocklaw05.KeccakSums', WHERE WHAT IT READS IS OF BULK AT MOST 1048576: true; the input reads as it did. -/
def keccakSumsUptoRow : OpenClaim := { program := "ytccacdfkdkiaeaadoor", sum := "46a588734c9e06c04d5de64f5abbc7d6373ec6e9472db5ad207276c6f21770d9", func := "drydock/drydocklaw05.KeccakSums", spec := "keccakSums", named := ["drydock/keccak.constants"], apart := false, laid := [("drydock/keccak.constants", laid_drydock_keccak_constants)], narrowed := true }
def KeccakSumsUptoSaid : Prop := keccakSumsUptoRow.holds Tryd.pinned (OpenSpec.upto keccakSumsSpec)

/-- 'drydocklaw05.KeccakParts', WHERE WHAT IT READS IS OF BULK AT MOST 1048576: true; the input reads as it did. -/
def keccakPartsUptoRow : OpenClaim := { program := "ytccacdfkdkiaeaadoor", sum := "46a588734c9e06c04d5de64f5abbc7d6373ec6e9472db5ad207276c6f21770d9", func := "drydock/drydocklaw05.KeccakParts", spec := "keccakParts", named := ["drydock/keccak.constants"], apart := false, laid := [("drydock/keccak.constants", laid_drydock_keccak_constants)], narrowed := true }
def KeccakPartsUptoSaid : Prop := keccakPartsUptoRow.holds Tryd.pinned (OpenSpec.upto keccakPartsSpec)

/-- 'drydocklaw05.KeccakTexts', WHERE WHAT IT READS IS OF BULK AT MOST 1048576: true; the input reads as it did. -/
def keccakTextsUptoRow : OpenClaim := { program := "ytccacdfkdkiaeaadoor", sum := "46a588734c9e06c04d5de64f5abbc7d6373ec6e9472db5ad207276c6f21770d9", func := "drydock/drydocklaw05.KeccakTexts", spec := "keccakTexts", named := ["drydock/keccak.constants"], apart := false, laid := [("drydock/keccak.constants", laid_drydock_keccak_constants)], narrowed := true }
def KeccakTextsUptoSaid : Prop := keccakTextsUptoRow.holds Tryd.pinned (OpenSpec.upto keccakTextsSpec)

/-- 'drydocklaw05.KeccakBegins', WHERE WHAT IT READS IS OF BULK AT MOST 1048576: true; the input reads as it did. -/
def keccakBeginsUptoRow : OpenClaim := { program := "ytccacdfkdkiaeaadoor", sum := "46a588734c9e06c04d5de64f5abbc7d6373ec6e9472db5ad207276c6f21770d9", func := "drydock/drydocklaw05.KeccakBegins", spec := "keccakBegins", named := ["drydock/keccak.constants"], apart := false, laid := [("drydock/keccak.constants", laid_drydock_keccak_constants)], narrowed := true }
def KeccakBeginsUptoSaid : Prop := keccakBeginsUptoRow.holds Tryd.pinned (OpenSpec.upto keccakBeginsSpec)

/-- 'drydocklaw05.KeccakShakes', WHERE WHAT IT READS IS OF BULK AT MOST 1048576: true; the input reads as it did. -/
def keccakShakesUptoRow : OpenClaim := { program := "ytccacdfkdkiaeaadoor", sum := "46a588734c9e06c04d5de64f5abbc7d6373ec6e9472db5ad207276c6f21770d9", func := "drydock/drydocklaw05.KeccakShakes", spec := "keccakShakes", inPlace := ["internal/reflectlite.ValueOf", "(internal/reflectlite.Value).Type", "(internal/reflectlite.Value).IsNil", "internal/reflectlite.TypeOf", "(internal/reflectlite.Value).Elem", "(internal/reflectlite.Value).Set"], unfollowed := true, recurses := true, named := ["drydock/keccak.constants", "errors.errorType"], apart := false, laid := [("errors.errorType", laid_errors_errorType), ("drydock/keccak.constants", laid_drydock_keccak_constants)], narrowed := true }
def KeccakShakesUptoSaid : Prop := keccakShakesUptoRow.holds Tryd.pinned (OpenSpec.upto keccakShakesSpec)

end Rows
end Go.Proofs.YtccacdfkdkiaeaaDoor
