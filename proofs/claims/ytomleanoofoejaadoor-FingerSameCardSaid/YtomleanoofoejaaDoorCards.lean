/-
  DERIVED. GIVEN WITH THE SEED: THE CARDS: each row of YtomleanoofoejaaDoorRows.lean that lists a variable, with what it lists TIED to the program's text (the seventh form; the later family's looks); each row that meets fmt, with fmt's text TOLD by the authors' own Lean function (tested against real Go, not proved from fmt's source: count such statements apart). THE CARD IS WHAT COUNTS. Prove the row's statement (the work); the ties are given (YtomleanoofoejaaDoorTie.lean); close each card by the builder's one call (the guide's Derived/Test/ToyasCard.lean, 'card_holds'). Laid BY PROGRAM, IN A SANDBOX (cutbox-door.mjs). By AI agents, Wed Nov 11 2026. No macro, syntax, notation, axiom, sorry.
-/
import Derived.Test.YtomleanoofoejaaDoorRows
import GoSem.ClaimSeven
namespace Go.Proofs.YtomleanoofoejaaDoor
namespace Rows

/-- THE TIED CARD OF 'drydocklaw06.FingerSame'. -/
def fingerSameCard : Claim7 := { stood := { row := fingerSameRow, standIns := [], harness := (true, "726c99819e03cd6d526fce7894746323af9fa14e0c88ba639e407931bcd66774"), looks := true }, kinds := [], alts := [], laidByText := true, laidKinds := [.handle, .data], laidTests := true, laidLooks := .later }
def FingerSameCardSaid : Prop := Claim7.holds Tryd.pinned (.plain (OpenSpec.ofChange fingerSameSpec)) fingerSameCard

/-- THE TIED CARD OF 'drydocklaw06.FingerLess'. -/
def fingerLessCard : Claim7 := { stood := { row := fingerLessRow, standIns := [], harness := (true, "726c99819e03cd6d526fce7894746323af9fa14e0c88ba639e407931bcd66774"), looks := true }, kinds := [], alts := [], laidByText := true, laidKinds := [.handle, .data], laidTests := true, laidLooks := .later }
def FingerLessCardSaid : Prop := Claim7.holds Tryd.pinned (.plain (OpenSpec.ofChange fingerLessSpec)) fingerLessCard

/-- THE TIED CARD OF 'drydocklaw06.FingerStrong'. -/
def fingerStrongCard : Claim7 := { stood := { row := fingerStrongRow, standIns := [], harness := (true, "726c99819e03cd6d526fce7894746323af9fa14e0c88ba639e407931bcd66774"), looks := true }, kinds := [], alts := [], laidByText := true, laidKinds := [.handle, .data], laidTests := true, laidLooks := .later }
def FingerStrongCardSaid : Prop := Claim7.holds Tryd.pinned (.plain (OpenSpec.ofChange fingerStrongSpec)) fingerStrongCard

/-- THE TIED CARD OF 'drydocklaw06.FingerKinds'. -/
def fingerKindsCard : Claim7 := { stood := { row := fingerKindsRow, standIns := [], harness := (true, "726c99819e03cd6d526fce7894746323af9fa14e0c88ba639e407931bcd66774"), looks := true }, kinds := [], alts := [], laidByText := true, laidKinds := [.handle, .data], laidTests := true, laidLooks := .later }
def FingerKindsCardSaid : Prop := Claim7.holds Tryd.pinned (.plain (OpenSpec.ofChange fingerKindsSpec)) fingerKindsCard

/-- THE SECOND FORM's CARD OF 'drydocklaw06.FingerSame'. -/
def fingerSameUptoCard : Claim7 := { stood := { row := fingerSameUptoRow, standIns := [], harness := (true, "726c99819e03cd6d526fce7894746323af9fa14e0c88ba639e407931bcd66774"), looks := true }, kinds := [], alts := [], laidByText := true, laidKinds := [.handle, .data], laidTests := true, laidLooks := .later }
def FingerSameUptoCardSaid : Prop := Claim7.holds Tryd.pinned (.plain (OpenSpec.upto fingerSameSpec)) fingerSameUptoCard

/-- THE SECOND FORM's CARD OF 'drydocklaw06.FingerLess'. -/
def fingerLessUptoCard : Claim7 := { stood := { row := fingerLessUptoRow, standIns := [], harness := (true, "726c99819e03cd6d526fce7894746323af9fa14e0c88ba639e407931bcd66774"), looks := true }, kinds := [], alts := [], laidByText := true, laidKinds := [.handle, .data], laidTests := true, laidLooks := .later }
def FingerLessUptoCardSaid : Prop := Claim7.holds Tryd.pinned (.plain (OpenSpec.upto fingerLessSpec)) fingerLessUptoCard

/-- THE SECOND FORM's CARD OF 'drydocklaw06.FingerStrong'. -/
def fingerStrongUptoCard : Claim7 := { stood := { row := fingerStrongUptoRow, standIns := [], harness := (true, "726c99819e03cd6d526fce7894746323af9fa14e0c88ba639e407931bcd66774"), looks := true }, kinds := [], alts := [], laidByText := true, laidKinds := [.handle, .data], laidTests := true, laidLooks := .later }
def FingerStrongUptoCardSaid : Prop := Claim7.holds Tryd.pinned (.plain (OpenSpec.upto fingerStrongSpec)) fingerStrongUptoCard

/-- THE SECOND FORM's CARD OF 'drydocklaw06.FingerKinds'. -/
def fingerKindsUptoCard : Claim7 := { stood := { row := fingerKindsUptoRow, standIns := [], harness := (true, "726c99819e03cd6d526fce7894746323af9fa14e0c88ba639e407931bcd66774"), looks := true }, kinds := [], alts := [], laidByText := true, laidKinds := [.handle, .data], laidTests := true, laidLooks := .later }
def FingerKindsUptoCardSaid : Prop := Claim7.holds Tryd.pinned (.plain (OpenSpec.upto fingerKindsSpec)) fingerKindsUptoCard
end Rows
end Go.Proofs.YtomleanoofoejaaDoor
