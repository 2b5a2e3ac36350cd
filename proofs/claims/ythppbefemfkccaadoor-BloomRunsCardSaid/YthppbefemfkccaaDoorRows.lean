/-
  NARROWER THAN 'FOR EVERY INPUT', by the rows' own cells (each row's printed sentence says how): BloomBits: laid · BloomRuns: laid · BloomReads: laid.
  DERIVED. THE GIVEN ROWS OF THIS SEAT. 3 by the template 'for every input the law returns true; each argument reads behind the call as it read before'; 0 by the template 'total and deterministic' (their statements: YthppbefemfkccaaDoorTotals.lean).
  GIVEN WITH THE SEED: the statements are not yours to turn. If you find one false, say at which input.
  Laid BY PROGRAM, IN A SANDBOX (cutbox-rows.mjs): the forced cells as the released guide's own fill.sh prints them over the translation 7c8fdcf65e4d7cd5… (all of the seat's roots in one cut). By AI agents, Wed Nov 11 2026. No macro, syntax, notation, axiom, sorry.
-/
import Derived.Test.YthppbefemfkccaaDoorChecked
import GoSem.Claim
import GoSem.ClaimJoined
import GoSem.ClaimMapViews
import Derived.JoinedTies
import Derived.KernelRfl
namespace Go.Proofs.YthppbefemfkccaaDoor
/- THE CELL 'sum', in the pinned program and in every row, IS THE sha256 OF THE DUMP (.gsa) THAT YthppbefemfkccaaDoorProg.lean LOADS. Nothing in Lean hashes anything: it is a label: what it is worth is what the hold of that sum in a sandbox is worth. -/
noncomputable def Tryd.pinned : Pinned := { name := "ythppbefemfkccaadoor", sum := "7c8fdcf65e4d7cd57d00e63c4f225721711389ef96a5044b2c03ed03e869b23d", checked := Tryd.checked }
namespace Rows
def none {H : Type} : Left H := { results := [], args := [] }

/- WHAT THE LISTED PACKAGE-LEVEL VARIABLES READ AS WHEN THE CALL BEGINS. Each datum BY PROGRAM (the guide's laid-datum.mjs) off the statement by which the dump's own 'gosem.cut.vars' lays the variable. In a bare row this is a premise. The card (YthppbefemfkccaaDoorCards.lean) ties it to the program's text. -/
def laid_errors_errorType {H : Type} : DataW H := .iface "internal/reflectlite.rtype" (.agg [.ptr (.lit (.string [101, 114, 114, 111, 114]))])

/-- 'drydocklaw11.BloomBits': WHATEVER THE INPUT: true; the input reads as it did. -/
def bloomBitsSpec : ChangeSpec := { name := "bloomBits", fn := fun _ => fun
  | [d1, d2] => { results := [.lit (.bool true)], args := [d1, d2] }
  | _ => none }
def bloomBitsRow : OpenClaim := { program := "ythppbefemfkccaadoor", sum := "7c8fdcf65e4d7cd57d00e63c4f225721711389ef96a5044b2c03ed03e869b23d", func := "drydock/drydocklaw11.BloomBits", spec := "bloomBits", inPlace := ["internal/reflectlite.ValueOf", "(internal/reflectlite.Value).Type", "(internal/reflectlite.Value).IsNil", "internal/reflectlite.TypeOf", "(internal/reflectlite.Value).Elem", "(internal/reflectlite.Value).Set"], unfollowed := true, recurses := true, named := ["errors.errorType"], apart := false, laid := [("errors.errorType", laid_errors_errorType)] }
def BloomBitsSaid : Prop := bloomBitsRow.holds Tryd.pinned (OpenSpec.ofChange bloomBitsSpec)

/-- ITS FALSE NEIGHBOUR: 'it returns false'. Refute it at one input. -/
def bloomBitsWrong : ChangeSpec := { name := "bloomBits", fn := fun _ => fun
  | [d1, d2] => { results := [.lit (.bool false)], args := [d1, d2] }
  | _ => none }
def BloomBitsWrongFalsely : Prop := bloomBitsRow.holds Tryd.pinned (OpenSpec.ofChange bloomBitsWrong)

/-- 'drydocklaw11.BloomRuns': WHATEVER THE INPUT: true; the input reads as it did. -/
def bloomRunsSpec : ChangeSpec := { name := "bloomRuns", fn := fun _ => fun
  | [d1, d2, d3] => { results := [.lit (.bool true)], args := [d1, d2, d3] }
  | _ => none }
def bloomRunsRow : OpenClaim := { program := "ythppbefemfkccaadoor", sum := "7c8fdcf65e4d7cd57d00e63c4f225721711389ef96a5044b2c03ed03e869b23d", func := "drydock/drydocklaw11.BloomRuns", spec := "bloomRuns", inPlace := ["internal/reflectlite.ValueOf", "(internal/reflectlite.Value).Type", "(internal/reflectlite.Value).IsNil", "internal/reflectlite.TypeOf", "(internal/reflectlite.Value).Elem", "(internal/reflectlite.Value).Set"], unfollowed := true, recurses := true, named := ["errors.errorType"], apart := false, laid := [("errors.errorType", laid_errors_errorType)] }
def BloomRunsSaid : Prop := bloomRunsRow.holds Tryd.pinned (OpenSpec.ofChange bloomRunsSpec)

/-- ITS FALSE NEIGHBOUR: 'it returns false'. Refute it at one input. -/
def bloomRunsWrong : ChangeSpec := { name := "bloomRuns", fn := fun _ => fun
  | [d1, d2, d3] => { results := [.lit (.bool false)], args := [d1, d2, d3] }
  | _ => none }
def BloomRunsWrongFalsely : Prop := bloomRunsRow.holds Tryd.pinned (OpenSpec.ofChange bloomRunsWrong)

/-- 'drydocklaw11.BloomReads': WHATEVER THE INPUT: true; the input reads as it did. -/
def bloomReadsSpec : ChangeSpec := { name := "bloomReads", fn := fun _ => fun
  | [d] => { results := [.lit (.bool true)], args := [d] }
  | _ => none }
def bloomReadsRow : OpenClaim := { program := "ythppbefemfkccaadoor", sum := "7c8fdcf65e4d7cd57d00e63c4f225721711389ef96a5044b2c03ed03e869b23d", func := "drydock/drydocklaw11.BloomReads", spec := "bloomReads", inPlace := ["internal/reflectlite.ValueOf", "(internal/reflectlite.Value).Type", "(internal/reflectlite.Value).IsNil", "internal/reflectlite.TypeOf", "(internal/reflectlite.Value).Elem", "(internal/reflectlite.Value).Set"], unfollowed := true, recurses := true, named := ["errors.errorType"], apart := false, laid := [("errors.errorType", laid_errors_errorType)] }
def BloomReadsSaid : Prop := bloomReadsRow.holds Tryd.pinned (OpenSpec.ofChange bloomReadsSpec)

/-- ITS FALSE NEIGHBOUR: 'it returns false'. Refute it at one input. -/
def bloomReadsWrong : ChangeSpec := { name := "bloomReads", fn := fun _ => fun
  | [d] => { results := [.lit (.bool false)], args := [d] }
  | _ => none }
def BloomReadsWrongFalsely : Prop := bloomReadsRow.holds Tryd.pinned (OpenSpec.ofChange bloomReadsWrong)

/- THE SECOND FORM. 'bulk': how many values and letters a reading holds, each counted each time it is reached (what is shared counts as often as it is met; a slice's spare places count too). A statement '..UptoSaid' is the law's where the arguments, and the package variables that the reading takes, are together of bulk at most 1048576: NARROWER than '..Said'. Prove '..Said' where nothing that the law and all that it calls make is longer than what came in: it says more and counts as full. Else prove '..UptoSaid'. A law counts once. -/
mutual
def uptoBulk {H : Type} : DataW H → Nat
  | .lit (.string bytes) => bytes.length + 1
  | .lit _ => 1
  | .nil => 1
  | .ptr d => uptoBulk d + 1
  | .slice elems spare => uptoBulkAll elems + uptoBulkAll spare + 1
  | .agg parts => uptoBulkAll parts + 1
  | .iface _ d => uptoBulk d + 1
  | .map entries => uptoBulkEntries entries + 1
  | .held _ => 1
def uptoBulkAll {H : Type} : List (DataW H) → Nat
  | [] => 0
  | d :: r => uptoBulk d + uptoBulkAll r
def uptoBulkEntries {H : Type} : List (Lit × DataW H) → Nat
  | [] => 0
  | x :: r => uptoBulkEntry x + uptoBulkEntries r
def uptoBulkEntry {H : Type} : Lit × DataW H → Nat
  | (.string bytes, d) => bytes.length + uptoBulk d + 1
  | (_, d) => uptoBulk d + 1
 end
def uptoSmall : (H : Type) → List (DataW H) → Bool := fun _ ds => decide (uptoBulkAll ds ≤ 1048576)
def OpenSpec.upto (s : _root_.Go.ChangeSpec) : _root_.Go.OpenSpec := { _root_.Go.OpenSpec.ofChange s with cond := some uptoSmall }

/-- 'drydocklaw11.BloomBits', WHERE WHAT IT READS IS OF BULK AT MOST 1048576: true; the input reads as it did. -/
def bloomBitsUptoRow : OpenClaim := { program := "ythppbefemfkccaadoor", sum := "7c8fdcf65e4d7cd57d00e63c4f225721711389ef96a5044b2c03ed03e869b23d", func := "drydock/drydocklaw11.BloomBits", spec := "bloomBits", inPlace := ["internal/reflectlite.ValueOf", "(internal/reflectlite.Value).Type", "(internal/reflectlite.Value).IsNil", "internal/reflectlite.TypeOf", "(internal/reflectlite.Value).Elem", "(internal/reflectlite.Value).Set"], unfollowed := true, recurses := true, named := ["errors.errorType"], apart := false, laid := [("errors.errorType", laid_errors_errorType)], narrowed := true }
def BloomBitsUptoSaid : Prop := bloomBitsUptoRow.holds Tryd.pinned (OpenSpec.upto bloomBitsSpec)

/-- 'drydocklaw11.BloomRuns', WHERE WHAT IT READS IS OF BULK AT MOST 1048576: true; the input reads as it did. -/
def bloomRunsUptoRow : OpenClaim := { program := "ythppbefemfkccaadoor", sum := "7c8fdcf65e4d7cd57d00e63c4f225721711389ef96a5044b2c03ed03e869b23d", func := "drydock/drydocklaw11.BloomRuns", spec := "bloomRuns", inPlace := ["internal/reflectlite.ValueOf", "(internal/reflectlite.Value).Type", "(internal/reflectlite.Value).IsNil", "internal/reflectlite.TypeOf", "(internal/reflectlite.Value).Elem", "(internal/reflectlite.Value).Set"], unfollowed := true, recurses := true, named := ["errors.errorType"], apart := false, laid := [("errors.errorType", laid_errors_errorType)], narrowed := true }
def BloomRunsUptoSaid : Prop := bloomRunsUptoRow.holds Tryd.pinned (OpenSpec.upto bloomRunsSpec)

/-- 'drydocklaw11.BloomReads', WHERE WHAT IT READS IS OF BULK AT MOST 1048576: true; the input reads as it did. -/
def bloomReadsUptoRow : OpenClaim := { program := "ythppbefemfkccaadoor", sum := "7c8fdcf65e4d7cd57d00e63c4f225721711389ef96a5044b2c03ed03e869b23d", func := "drydock/drydocklaw11.BloomReads", spec := "bloomReads", inPlace := ["internal/reflectlite.ValueOf", "(internal/reflectlite.Value).Type", "(internal/reflectlite.Value).IsNil", "internal/reflectlite.TypeOf", "(internal/reflectlite.Value).Elem", "(internal/reflectlite.Value).Set"], unfollowed := true, recurses := true, named := ["errors.errorType"], apart := false, laid := [("errors.errorType", laid_errors_errorType)], narrowed := true }
def BloomReadsUptoSaid : Prop := bloomReadsUptoRow.holds Tryd.pinned (OpenSpec.upto bloomReadsSpec)

end Rows
end Go.Proofs.YthppbefemfkccaaDoor
