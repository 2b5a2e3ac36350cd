/-
  DERIVED. GIVEN WITH THE SEED: THE CARDS: each row of YthppbefemfkccaaDoorRows.lean that lists a variable, with what it lists TIED to the program's text (the seventh form; the later family's looks); each row that meets fmt, with fmt's text TOLD by the authors' own Lean function (tested against real Go, not proved from fmt's source: count such statements apart). THE CARD IS WHAT COUNTS. Prove the row's statement (the work); the ties are given (YthppbefemfkccaaDoorTie.lean); close each card by the builder's one call (the guide's Derived/Test/ToyasCard.lean, 'card_holds'). Laid BY PROGRAM, IN A SANDBOX (cutbox-door.mjs). By AI agents, Wed Nov 11 2026. No macro, syntax, notation, axiom, sorry.
-/
import Derived.Test.YthppbefemfkccaaDoorRows
import GoSem.ClaimSeven
namespace Go.Proofs.YthppbefemfkccaaDoor
namespace Rows

/-- THE TIED CARD OF 'drydocklaw11.BloomBits'. -/
def bloomBitsCard : Claim7 := { stood := { row := bloomBitsRow, standIns := [], harness := (true, "eae33ff74f973e6286a20b31bd074715e0e5c82c00a168f4fecbb1a15e178822"), looks := true }, kinds := [], alts := [], laidByText := true, laidKinds := [.handle], laidTests := true, laidLooks := .later }
def BloomBitsCardSaid : Prop := Claim7.holds Tryd.pinned (.plain (OpenSpec.ofChange bloomBitsSpec)) bloomBitsCard

/-- THE TIED CARD OF 'drydocklaw11.BloomRuns'. -/
def bloomRunsCard : Claim7 := { stood := { row := bloomRunsRow, standIns := [], harness := (true, "eae33ff74f973e6286a20b31bd074715e0e5c82c00a168f4fecbb1a15e178822"), looks := true }, kinds := [], alts := [], laidByText := true, laidKinds := [.handle], laidTests := true, laidLooks := .later }
def BloomRunsCardSaid : Prop := Claim7.holds Tryd.pinned (.plain (OpenSpec.ofChange bloomRunsSpec)) bloomRunsCard

/-- THE TIED CARD OF 'drydocklaw11.BloomReads'. -/
def bloomReadsCard : Claim7 := { stood := { row := bloomReadsRow, standIns := [], harness := (true, "eae33ff74f973e6286a20b31bd074715e0e5c82c00a168f4fecbb1a15e178822"), looks := true }, kinds := [], alts := [], laidByText := true, laidKinds := [.handle], laidTests := true, laidLooks := .later }
def BloomReadsCardSaid : Prop := Claim7.holds Tryd.pinned (.plain (OpenSpec.ofChange bloomReadsSpec)) bloomReadsCard

/-- THE SECOND FORM's CARD OF 'drydocklaw11.BloomBits'. -/
def bloomBitsUptoCard : Claim7 := { stood := { row := bloomBitsUptoRow, standIns := [], harness := (true, "eae33ff74f973e6286a20b31bd074715e0e5c82c00a168f4fecbb1a15e178822"), looks := true }, kinds := [], alts := [], laidByText := true, laidKinds := [.handle], laidTests := true, laidLooks := .later }
def BloomBitsUptoCardSaid : Prop := Claim7.holds Tryd.pinned (.plain (OpenSpec.upto bloomBitsSpec)) bloomBitsUptoCard

/-- THE SECOND FORM's CARD OF 'drydocklaw11.BloomRuns'. -/
def bloomRunsUptoCard : Claim7 := { stood := { row := bloomRunsUptoRow, standIns := [], harness := (true, "eae33ff74f973e6286a20b31bd074715e0e5c82c00a168f4fecbb1a15e178822"), looks := true }, kinds := [], alts := [], laidByText := true, laidKinds := [.handle], laidTests := true, laidLooks := .later }
def BloomRunsUptoCardSaid : Prop := Claim7.holds Tryd.pinned (.plain (OpenSpec.upto bloomRunsSpec)) bloomRunsUptoCard

/-- THE SECOND FORM's CARD OF 'drydocklaw11.BloomReads'. -/
def bloomReadsUptoCard : Claim7 := { stood := { row := bloomReadsUptoRow, standIns := [], harness := (true, "eae33ff74f973e6286a20b31bd074715e0e5c82c00a168f4fecbb1a15e178822"), looks := true }, kinds := [], alts := [], laidByText := true, laidKinds := [.handle], laidTests := true, laidLooks := .later }
def BloomReadsUptoCardSaid : Prop := Claim7.holds Tryd.pinned (.plain (OpenSpec.upto bloomReadsSpec)) bloomReadsUptoCard
end Rows
end Go.Proofs.YthppbefemfkccaaDoor
