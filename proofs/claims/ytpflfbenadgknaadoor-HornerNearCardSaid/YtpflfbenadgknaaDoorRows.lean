/-
  NARROWER THAN 'FOR EVERY INPUT', by the rows' own cells (each row's printed sentence says how): HornerJoins: laid · HornerSeals: laid · HornerNear: laid.
  DERIVED. THE GIVEN ROWS OF THIS SEAT. 3 by the template 'for every input the law returns true; each argument reads behind the call as it read before'; 0 by the template 'total and deterministic' (their statements: YtpflfbenadgknaaDoorTotals.lean).
  GIVEN WITH THE SEED: the statements are not yours to turn. If you find one false, say at which input.
  Laid BY PROGRAM, IN A SANDBOX (cutbox-rows.mjs): the forced cells as the released guide's own fill.sh prints them over the translation f9271ca2c87281d4… (all of the seat's roots in one cut). By AI agents, Wed Nov 11 2026. No macro, syntax, notation, axiom, sorry.
-/
import Derived.Test.YtpflfbenadgknaaDoorChecked
import GoSem.Claim
import GoSem.ClaimJoined
import GoSem.ClaimMapViews
import Derived.JoinedTies
import Derived.KernelRfl
namespace Go.Proofs.YtpflfbenadgknaaDoor
/- THE CELL 'sum', in the pinned program and in every row, IS THE sha256 OF THE DUMP (.gsa) THAT YtpflfbenadgknaaDoorProg.lean LOADS. Nothing in Lean hashes anything: it is a label: what it is worth is what the hold of that sum in a sandbox is worth. -/
noncomputable def Tryd.pinned : Pinned := { name := "ytpflfbenadgknaadoor", sum := "f9271ca2c87281d43de44f9dfdf10ca71a1e52165c5813617064d940ee72551d", checked := Tryd.checked }
namespace Rows
def none {H : Type} : Left H := { results := [], args := [] }

/- WHAT THE LISTED PACKAGE-LEVEL VARIABLES READ AS WHEN THE CALL BEGINS. Each datum BY PROGRAM (the guide's laid-datum.mjs) off the statement by which the dump's own 'gosem.cut.vars' lays the variable. In a bare row this is a premise. The card (YtpflfbenadgknaaDoorCards.lean) ties it to the program's text. -/
def laid_errors_errorType {H : Type} : DataW H := .iface "internal/reflectlite.rtype" (.agg [.ptr (.lit (.string [101, 114, 114, 111, 114]))])

/-- 'drydocklaw03.HornerJoins': WHATEVER THE INPUT: true; the input reads as it did. -/
def hornerJoinsSpec : ChangeSpec := { name := "hornerJoins", fn := fun _ => fun
  | [d1, d2, d3] => { results := [.lit (.bool true)], args := [d1, d2, d3] }
  | _ => none }
def hornerJoinsRow : OpenClaim := { program := "ytpflfbenadgknaadoor", sum := "f9271ca2c87281d43de44f9dfdf10ca71a1e52165c5813617064d940ee72551d", func := "drydock/drydocklaw03.HornerJoins", spec := "hornerJoins", inPlace := ["internal/reflectlite.ValueOf", "(internal/reflectlite.Value).Type", "(internal/reflectlite.Value).IsNil", "internal/reflectlite.TypeOf", "(internal/reflectlite.Value).Elem", "(internal/reflectlite.Value).Set"], unfollowed := true, recurses := true, named := ["errors.errorType"], apart := false, laid := [("errors.errorType", laid_errors_errorType)] }
def HornerJoinsSaid : Prop := hornerJoinsRow.holds Tryd.pinned (OpenSpec.ofChange hornerJoinsSpec)

/-- ITS FALSE NEIGHBOUR: 'it returns false'. Refute it at one input. -/
def hornerJoinsWrong : ChangeSpec := { name := "hornerJoins", fn := fun _ => fun
  | [d1, d2, d3] => { results := [.lit (.bool false)], args := [d1, d2, d3] }
  | _ => none }
def HornerJoinsWrongFalsely : Prop := hornerJoinsRow.holds Tryd.pinned (OpenSpec.ofChange hornerJoinsWrong)

/-- 'drydocklaw03.HornerSeals': WHATEVER THE INPUT: true; the input reads as it did. -/
def hornerSealsSpec : ChangeSpec := { name := "hornerSeals", fn := fun _ => fun
  | [d] => { results := [.lit (.bool true)], args := [d] }
  | _ => none }
def hornerSealsRow : OpenClaim := { program := "ytpflfbenadgknaadoor", sum := "f9271ca2c87281d43de44f9dfdf10ca71a1e52165c5813617064d940ee72551d", func := "drydock/drydocklaw03.HornerSeals", spec := "hornerSeals", inPlace := ["internal/reflectlite.ValueOf", "(internal/reflectlite.Value).Type", "(internal/reflectlite.Value).IsNil", "internal/reflectlite.TypeOf", "(internal/reflectlite.Value).Elem", "(internal/reflectlite.Value).Set"], unfollowed := true, recurses := true, named := ["errors.errorType"], apart := false, laid := [("errors.errorType", laid_errors_errorType)] }
def HornerSealsSaid : Prop := hornerSealsRow.holds Tryd.pinned (OpenSpec.ofChange hornerSealsSpec)

/-- ITS FALSE NEIGHBOUR: 'it returns false'. Refute it at one input. -/
def hornerSealsWrong : ChangeSpec := { name := "hornerSeals", fn := fun _ => fun
  | [d] => { results := [.lit (.bool false)], args := [d] }
  | _ => none }
def HornerSealsWrongFalsely : Prop := hornerSealsRow.holds Tryd.pinned (OpenSpec.ofChange hornerSealsWrong)

/-- 'drydocklaw03.HornerNear': WHATEVER THE INPUT: true; the input reads as it did. -/
def hornerNearSpec : ChangeSpec := { name := "hornerNear", fn := fun _ => fun
  | [d1, d2, d3] => { results := [.lit (.bool true)], args := [d1, d2, d3] }
  | _ => none }
def hornerNearRow : OpenClaim := { program := "ytpflfbenadgknaadoor", sum := "f9271ca2c87281d43de44f9dfdf10ca71a1e52165c5813617064d940ee72551d", func := "drydock/drydocklaw03.HornerNear", spec := "hornerNear", inPlace := ["internal/reflectlite.ValueOf", "(internal/reflectlite.Value).Type", "(internal/reflectlite.Value).IsNil", "internal/reflectlite.TypeOf", "(internal/reflectlite.Value).Elem", "(internal/reflectlite.Value).Set"], unfollowed := true, recurses := true, named := ["errors.errorType"], apart := false, laid := [("errors.errorType", laid_errors_errorType)] }
def HornerNearSaid : Prop := hornerNearRow.holds Tryd.pinned (OpenSpec.ofChange hornerNearSpec)

/-- ITS FALSE NEIGHBOUR: 'it returns false'. Refute it at one input. -/
def hornerNearWrong : ChangeSpec := { name := "hornerNear", fn := fun _ => fun
  | [d1, d2, d3] => { results := [.lit (.bool false)], args := [d1, d2, d3] }
  | _ => none }
def HornerNearWrongFalsely : Prop := hornerNearRow.holds Tryd.pinned (OpenSpec.ofChange hornerNearWrong)

/- THE SECOND FORM. 'bulk': how many values and letters a reading holds, each counted each time it is reached (what is shared counts as often as it is met; a slice's spare places count too). A statement '..UptoSaid' is the law's where the arguments, and the package variables that the reading takes, are together of bulk at most 1048576: NARROWER than '..Said'. Prove '..Said' where nothing that the law and all that it calls make is longer than what came in: it says more and counts as full. Else prove '..UptoSaid'. A law counts once. -/
mutual
def uptoBulk {H : Type} : DataW H → Nat
  | .lit (.string bytes) => bytes.length + 1
  | .lit _ => 1
  | .nil => 1
  | .ptr d => uptoBulk d + 1
  | .slice elems spare => uptoBulkAll elems + uptoBulkAll spare + 1
  | .agg parts => uptoBulkAll parts + 1
  | .iface _ d => uptoBulk d + 1
  | .map entries => uptoBulkEntries entries + 1
  | .held _ => 1
def uptoBulkAll {H : Type} : List (DataW H) → Nat
  | [] => 0
  | d :: r => uptoBulk d + uptoBulkAll r
def uptoBulkEntries {H : Type} : List (Lit × DataW H) → Nat
  | [] => 0
  | x :: r => uptoBulkEntry x + uptoBulkEntries r
def uptoBulkEntry {H : Type} : Lit × DataW H → Nat
  | (.string bytes, d) => bytes.length + uptoBulk d + 1
  | (_, d) => uptoBulk d + 1
 end
def uptoSmall : (H : Type) → List (DataW H) → Bool := fun _ ds => decide (uptoBulkAll ds ≤ 1048576)
def OpenSpec.upto (s : _root_.Go.ChangeSpec) : _root_.Go.OpenSpec := { _root_.Go.OpenSpec.ofChange s with cond := some uptoSmall }

/-- 'drydocklaw03.HornerJoins', WHERE WHAT IT READS IS OF BULK AT MOST 1048576: true; the input reads as it did. -/
def hornerJoinsUptoRow : OpenClaim := { program := "ytpflfbenadgknaadoor", sum := "f9271ca2c87281d43de44f9dfdf10ca71a1e52165c5813617064d940ee72551d", func := "drydock/drydocklaw03.HornerJoins", spec := "hornerJoins", inPlace := ["internal/reflectlite.ValueOf", "(internal/reflectlite.Value).Type", "(internal/reflectlite.Value).IsNil", "internal/reflectlite.TypeOf", "(internal/reflectlite.Value).Elem", "(internal/reflectlite.Value).Set"], unfollowed := true, recurses := true, named := ["errors.errorType"], apart := false, laid := [("errors.errorType", laid_errors_errorType)], narrowed := true }
def HornerJoinsUptoSaid : Prop := hornerJoinsUptoRow.holds Tryd.pinned (OpenSpec.upto hornerJoinsSpec)

/-- 'drydocklaw03.HornerSeals', WHERE WHAT IT READS IS OF BULK AT MOST 1048576: true; the input reads as it did. -/
def hornerSealsUptoRow : OpenClaim := { program := "ytpflfbenadgknaadoor", sum := "f9271ca2c87281d43de44f9dfdf10ca71a1e52165c5813617064d940ee72551d", func := "drydock/drydocklaw03.HornerSeals", spec := "hornerSeals", inPlace := ["internal/reflectlite.ValueOf", "(internal/reflectlite.Value).Type", "(internal/reflectlite.Value).IsNil", "internal/reflectlite.TypeOf", "(internal/reflectlite.Value).Elem", "(internal/reflectlite.Value).Set"], unfollowed := true, recurses := true, named := ["errors.errorType"], apart := false, laid := [("errors.errorType", laid_errors_errorType)], narrowed := true }
def HornerSealsUptoSaid : Prop := hornerSealsUptoRow.holds Tryd.pinned (OpenSpec.upto hornerSealsSpec)

/-- 'drydocklaw03.HornerNear', WHERE WHAT IT READS IS OF BULK AT MOST 1048576: true; the input reads as it did. -/
def hornerNearUptoRow : OpenClaim := { program := "ytpflfbenadgknaadoor", sum := "f9271ca2c87281d43de44f9dfdf10ca71a1e52165c5813617064d940ee72551d", func := "drydock/drydocklaw03.HornerNear", spec := "hornerNear", inPlace := ["internal/reflectlite.ValueOf", "(internal/reflectlite.Value).Type", "(internal/reflectlite.Value).IsNil", "internal/reflectlite.TypeOf", "(internal/reflectlite.Value).Elem", "(internal/reflectlite.Value).Set"], unfollowed := true, recurses := true, named := ["errors.errorType"], apart := false, laid := [("errors.errorType", laid_errors_errorType)], narrowed := true }
def HornerNearUptoSaid : Prop := hornerNearUptoRow.holds Tryd.pinned (OpenSpec.upto hornerNearSpec)

end Rows
end Go.Proofs.YtpflfbenadgknaaDoor
