/-
  No cell of these rows narrows 'for every input' (looked for: loops, veiled, ifaces, maps, wideKeys, modest, calm, conditions, laid).
  DERIVED. THE GIVEN ROWS OF THIS SEAT. 5 by the template 'for every input the law returns true; each argument reads behind the call as it read before'; 0 by the template 'total and deterministic' (their statements: YtaedmafmflohiaaTotals.lean).
  GIVEN WITH THE SEED: the statements are not yours to turn. If you find one false, say at which input.
  Laid BY PROGRAM, IN A SANDBOX (cutbox-rows.mjs): the forced cells as the released guide's own fill.sh prints them over the translation 643d1487154ab267… (all of the seat's roots in one cut). By AI agents, Wed Nov 11 2026. No macro, syntax, notation, axiom, sorry.
-/
import Derived.Test.YtaedmafmflohiaaChecked
import GoSem.Claim
import GoSem.ClaimJoined
import GoSem.ClaimMapViews
import Derived.JoinedTies
import Derived.KernelRfl
namespace Go.Proofs.Ytaedmafmflohiaa
/- THE CELL 'sum', in the pinned program and in every row, IS THE sha256 OF THE DUMP (.gsa) THAT YtaedmafmflohiaaProg.lean LOADS. Nothing in Lean hashes anything: it is a label: what it is worth is what the hold of that sum in a sandbox is worth. -/
noncomputable def Try.pinned : Pinned := { name := "ytaedmafmflohiaa", sum := "643d1487154ab267b564aaa386f9405ee598e61921454eef90518eeb77665439", checked := Try.checked }
namespace Rows
def none {H : Type} : Left H := { results := [], args := [] }

/-- 'drydocklaw12.MemRanges': WHATEVER THE INPUT: true; the input reads as it did. -/
def memRangesSpec : ChangeSpec := { name := "memRanges", fn := fun _ => fun
  | [d1, d2, d3] => { results := [.lit (.bool true)], args := [d1, d2, d3] }
  | _ => none }
def memRangesRow : OpenClaim := { program := "ytaedmafmflohiaa", sum := "643d1487154ab267b564aaa386f9405ee598e61921454eef90518eeb77665439", func := "drydock/drydocklaw12.MemRanges", spec := "memRanges", inPlace := ["internal/bytealg.abigen_runtime_cmpstring", "slices.overlaps[drydock/api.Entry]"], unfollowed := true, recurses := true, apart := false }
def MemRangesSaid : Prop := memRangesRow.holds Try.pinned (OpenSpec.ofChange memRangesSpec)

/-- ITS FALSE NEIGHBOUR: 'it returns false'. Refute it at one input. -/
def memRangesWrong : ChangeSpec := { name := "memRanges", fn := fun _ => fun
  | [d1, d2, d3] => { results := [.lit (.bool false)], args := [d1, d2, d3] }
  | _ => none }
def MemRangesWrongFalsely : Prop := memRangesRow.holds Try.pinned (OpenSpec.ofChange memRangesWrong)

/-- 'drydocklaw12.MemLast': WHATEVER THE INPUT: true; the input reads as it did. -/
def memLastSpec : ChangeSpec := { name := "memLast", fn := fun _ => fun
  | [d] => { results := [.lit (.bool true)], args := [d] }
  | _ => none }
def memLastRow : OpenClaim := { program := "ytaedmafmflohiaa", sum := "643d1487154ab267b564aaa386f9405ee598e61921454eef90518eeb77665439", func := "drydock/drydocklaw12.MemLast", spec := "memLast", inPlace := ["internal/bytealg.abigen_runtime_cmpstring", "slices.overlaps[drydock/api.Entry]"], unfollowed := true, recurses := true, apart := false }
def MemLastSaid : Prop := memLastRow.holds Try.pinned (OpenSpec.ofChange memLastSpec)

/-- ITS FALSE NEIGHBOUR: 'it returns false'. Refute it at one input. -/
def memLastWrong : ChangeSpec := { name := "memLast", fn := fun _ => fun
  | [d] => { results := [.lit (.bool false)], args := [d] }
  | _ => none }
def MemLastWrongFalsely : Prop := memLastRow.holds Try.pinned (OpenSpec.ofChange memLastWrong)

/-- 'drydocklaw12.MemOrder': WHATEVER THE INPUT: true; the input reads as it did. -/
def memOrderSpec : ChangeSpec := { name := "memOrder", fn := fun _ => fun
  | [d] => { results := [.lit (.bool true)], args := [d] }
  | _ => none }
def memOrderRow : OpenClaim := { program := "ytaedmafmflohiaa", sum := "643d1487154ab267b564aaa386f9405ee598e61921454eef90518eeb77665439", func := "drydock/drydocklaw12.MemOrder", spec := "memOrder", inPlace := ["internal/bytealg.abigen_runtime_cmpstring", "slices.overlaps[drydock/api.Entry]"], unfollowed := true, recurses := true, apart := false }
def MemOrderSaid : Prop := memOrderRow.holds Try.pinned (OpenSpec.ofChange memOrderSpec)

/-- ITS FALSE NEIGHBOUR: 'it returns false'. Refute it at one input. -/
def memOrderWrong : ChangeSpec := { name := "memOrder", fn := fun _ => fun
  | [d] => { results := [.lit (.bool false)], args := [d] }
  | _ => none }
def MemOrderWrongFalsely : Prop := memOrderRow.holds Try.pinned (OpenSpec.ofChange memOrderWrong)

/-- 'drydocklaw12.MemRuns': WHATEVER THE INPUT: true; the input reads as it did. -/
def memRunsSpec : ChangeSpec := { name := "memRuns", fn := fun _ => fun
  | [d1, d2, d3] => { results := [.lit (.bool true)], args := [d1, d2, d3] }
  | _ => none }
def memRunsRow : OpenClaim := { program := "ytaedmafmflohiaa", sum := "643d1487154ab267b564aaa386f9405ee598e61921454eef90518eeb77665439", func := "drydock/drydocklaw12.MemRuns", spec := "memRuns", inPlace := ["internal/bytealg.abigen_runtime_cmpstring", "slices.overlaps[drydock/api.Entry]"], unfollowed := true, recurses := true, apart := false }
def MemRunsSaid : Prop := memRunsRow.holds Try.pinned (OpenSpec.ofChange memRunsSpec)

/-- ITS FALSE NEIGHBOUR: 'it returns false'. Refute it at one input. -/
def memRunsWrong : ChangeSpec := { name := "memRuns", fn := fun _ => fun
  | [d1, d2, d3] => { results := [.lit (.bool false)], args := [d1, d2, d3] }
  | _ => none }
def MemRunsWrongFalsely : Prop := memRunsRow.holds Try.pinned (OpenSpec.ofChange memRunsWrong)

/-- 'drydocklaw14.MergeNewest': WHATEVER THE INPUT: true; the input reads as it did. -/
def mergeNewestSpec : ChangeSpec := { name := "mergeNewest", fn := fun _ => fun
  | [d] => { results := [.lit (.bool true)], args := [d] }
  | _ => none }
def mergeNewestRow : OpenClaim := { program := "ytaedmafmflohiaa", sum := "643d1487154ab267b564aaa386f9405ee598e61921454eef90518eeb77665439", func := "drydock/drydocklaw14.MergeNewest", spec := "mergeNewest", unfollowed := true, recurses := true, apart := false }
def MergeNewestSaid : Prop := mergeNewestRow.holds Try.pinned (OpenSpec.ofChange mergeNewestSpec)

/-- ITS FALSE NEIGHBOUR: 'it returns false'. Refute it at one input. -/
def mergeNewestWrong : ChangeSpec := { name := "mergeNewest", fn := fun _ => fun
  | [d] => { results := [.lit (.bool false)], args := [d] }
  | _ => none }
def MergeNewestWrongFalsely : Prop := mergeNewestRow.holds Try.pinned (OpenSpec.ofChange mergeNewestWrong)

/- THE SECOND FORM. 'bulk': how many values and letters a reading holds, each counted each time it is reached (what is shared counts as often as it is met; a slice's spare places count too). A statement '..UptoSaid' is the law's where the arguments, and the package variables that the reading takes, are together of bulk at most 1048576: NARROWER than '..Said'. Prove '..Said' where nothing that the law and all that it calls make is longer than what came in: it says more and counts as full. Else prove '..UptoSaid'. A law counts once. -/
mutual
def uptoBulk {H : Type} : DataW H → Nat
  | .lit (.string bytes) => bytes.length + 1
  | .lit _ => 1
  | .nil => 1
  | .ptr d => uptoBulk d + 1
  | .slice elems spare => uptoBulkAll elems + uptoBulkAll spare + 1
  | .agg parts => uptoBulkAll parts + 1
  | .iface _ d => uptoBulk d + 1
  | .map entries => uptoBulkEntries entries + 1
  | .held _ => 1
def uptoBulkAll {H : Type} : List (DataW H) → Nat
  | [] => 0
  | d :: r => uptoBulk d + uptoBulkAll r
def uptoBulkEntries {H : Type} : List (Lit × DataW H) → Nat
  | [] => 0
  | x :: r => uptoBulkEntry x + uptoBulkEntries r
def uptoBulkEntry {H : Type} : Lit × DataW H → Nat
  | (.string bytes, d) => bytes.length + uptoBulk d + 1
  | (_, d) => uptoBulk d + 1
 end
def uptoSmall : (H : Type) → List (DataW H) → Bool := fun _ ds => decide (uptoBulkAll ds ≤ 1048576)
def OpenSpec.upto (s : _root_.Go.ChangeSpec) : _root_.Go.OpenSpec := { _root_.Go.OpenSpec.ofChange s with cond := some uptoSmall }

/-- 'drydocklaw12.MemRanges', WHERE WHAT IT READS IS OF BULK AT MOST 1048576: true; the input reads as it did. -/
def memRangesUptoRow : OpenClaim := { program := "ytaedmafmflohiaa", sum := "643d1487154ab267b564aaa386f9405ee598e61921454eef90518eeb77665439", func := "drydock/drydocklaw12.MemRanges", spec := "memRanges", inPlace := ["internal/bytealg.abigen_runtime_cmpstring", "slices.overlaps[drydock/api.Entry]"], unfollowed := true, recurses := true, apart := false, narrowed := true }
def MemRangesUptoSaid : Prop := memRangesUptoRow.holds Try.pinned (OpenSpec.upto memRangesSpec)

/-- 'drydocklaw12.MemLast', WHERE WHAT IT READS IS OF BULK AT MOST 1048576: true; the input reads as it did. -/
def memLastUptoRow : OpenClaim := { program := "ytaedmafmflohiaa", sum := "643d1487154ab267b564aaa386f9405ee598e61921454eef90518eeb77665439", func := "drydock/drydocklaw12.MemLast", spec := "memLast", inPlace := ["internal/bytealg.abigen_runtime_cmpstring", "slices.overlaps[drydock/api.Entry]"], unfollowed := true, recurses := true, apart := false, narrowed := true }
def MemLastUptoSaid : Prop := memLastUptoRow.holds Try.pinned (OpenSpec.upto memLastSpec)

/-- 'drydocklaw12.MemOrder', WHERE WHAT IT READS IS OF BULK AT MOST 1048576: true; the input reads as it did. -/
def memOrderUptoRow : OpenClaim := { program := "ytaedmafmflohiaa", sum := "643d1487154ab267b564aaa386f9405ee598e61921454eef90518eeb77665439", func := "drydock/drydocklaw12.MemOrder", spec := "memOrder", inPlace := ["internal/bytealg.abigen_runtime_cmpstring", "slices.overlaps[drydock/api.Entry]"], unfollowed := true, recurses := true, apart := false, narrowed := true }
def MemOrderUptoSaid : Prop := memOrderUptoRow.holds Try.pinned (OpenSpec.upto memOrderSpec)

/-- 'drydocklaw12.MemRuns', WHERE WHAT IT READS IS OF BULK AT MOST 1048576: true; the input reads as it did. -/
def memRunsUptoRow : OpenClaim := { program := "ytaedmafmflohiaa", sum := "643d1487154ab267b564aaa386f9405ee598e61921454eef90518eeb77665439", func := "drydock/drydocklaw12.MemRuns", spec := "memRuns", inPlace := ["internal/bytealg.abigen_runtime_cmpstring", "slices.overlaps[drydock/api.Entry]"], unfollowed := true, recurses := true, apart := false, narrowed := true }
def MemRunsUptoSaid : Prop := memRunsUptoRow.holds Try.pinned (OpenSpec.upto memRunsSpec)

/-- 'drydocklaw14.MergeNewest', WHERE WHAT IT READS IS OF BULK AT MOST 1048576: true; the input reads as it did. -/
def mergeNewestUptoRow : OpenClaim := { program := "ytaedmafmflohiaa", sum := "643d1487154ab267b564aaa386f9405ee598e61921454eef90518eeb77665439", func := "drydock/drydocklaw14.MergeNewest", spec := "mergeNewest", unfollowed := true, recurses := true, apart := false, narrowed := true }
def MergeNewestUptoSaid : Prop := mergeNewestUptoRow.holds Try.pinned (OpenSpec.upto mergeNewestSpec)

end Rows
end Go.Proofs.Ytaedmafmflohiaa
