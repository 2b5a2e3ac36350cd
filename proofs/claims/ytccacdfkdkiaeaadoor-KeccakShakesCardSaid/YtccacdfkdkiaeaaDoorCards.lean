/-
  DERIVED. GIVEN WITH THE SEED: THE CARDS: each row of YtccacdfkdkiaeaaDoorRows.lean that lists a variable, with what it lists TIED to the program's text (the seventh form; the later family's looks); each row that meets fmt, with fmt's text TOLD by the authors' own Lean function (tested against real Go, not proved from fmt's source: count such statements apart). THE CARD IS WHAT COUNTS. Prove the row's statement (the work); the ties are given (YtccacdfkdkiaeaaDoorTie.lean); close each card by the builder's one call (the guide's Derived/Test/ToyasCard.lean, 'card_holds'). Laid BY PROGRAM, IN A SANDBOX (cutbox-door.mjs). By AI agents, Wed Nov 11 2026. No macro, syntax, notation, axiom, sorry.
-/
import Derived.Test.YtccacdfkdkiaeaaDoorRows
import GoSem.ClaimSeven
namespace Go.Proofs.YtccacdfkdkiaeaaDoor
namespace Rows

/-- THE TIED CARD OF 'drydocklaw05.KeccakSums'. -/
def keccakSumsCard : Claim7 := { stood := { row := keccakSumsRow, standIns := [], harness := (true, "186cdd8f5f646c3aa1fa463cebbeb895a3738ffb85607e80a34f8cca2265a3f2"), looks := true }, kinds := [], alts := [], laidByText := true, laidKinds := [.data], laidTests := true, laidLooks := .later }
def KeccakSumsCardSaid : Prop := Claim7.holds Tryd.pinned (.plain (OpenSpec.ofChange keccakSumsSpec)) keccakSumsCard

/-- THE TIED CARD OF 'drydocklaw05.KeccakParts'. -/
def keccakPartsCard : Claim7 := { stood := { row := keccakPartsRow, standIns := [], harness := (true, "186cdd8f5f646c3aa1fa463cebbeb895a3738ffb85607e80a34f8cca2265a3f2"), looks := true }, kinds := [], alts := [], laidByText := true, laidKinds := [.data], laidTests := true, laidLooks := .later }
def KeccakPartsCardSaid : Prop := Claim7.holds Tryd.pinned (.plain (OpenSpec.ofChange keccakPartsSpec)) keccakPartsCard

/-- THE TIED CARD OF 'drydocklaw05.KeccakTexts'. -/
def keccakTextsCard : Claim7 := { stood := { row := keccakTextsRow, standIns := [], harness := (true, "186cdd8f5f646c3aa1fa463cebbeb895a3738ffb85607e80a34f8cca2265a3f2"), looks := true }, kinds := [], alts := [], laidByText := true, laidKinds := [.data], laidTests := true, laidLooks := .later }
def KeccakTextsCardSaid : Prop := Claim7.holds Tryd.pinned (.plain (OpenSpec.ofChange keccakTextsSpec)) keccakTextsCard

/-- THE TIED CARD OF 'drydocklaw05.KeccakBegins'. -/
def keccakBeginsCard : Claim7 := { stood := { row := keccakBeginsRow, standIns := [], harness := (true, "186cdd8f5f646c3aa1fa463cebbeb895a3738ffb85607e80a34f8cca2265a3f2"), looks := true }, kinds := [], alts := [], laidByText := true, laidKinds := [.data], laidTests := true, laidLooks := .later }
def KeccakBeginsCardSaid : Prop := Claim7.holds Tryd.pinned (.plain (OpenSpec.ofChange keccakBeginsSpec)) keccakBeginsCard

/-- THE TIED CARD OF 'drydocklaw05.KeccakShakes'. -/
def keccakShakesCard : Claim7 := { stood := { row := keccakShakesRow, standIns := [], harness := (true, "186cdd8f5f646c3aa1fa463cebbeb895a3738ffb85607e80a34f8cca2265a3f2"), looks := true }, kinds := [], alts := [], laidByText := true, laidKinds := [.handle, .data], laidTests := true, laidLooks := .later }
def KeccakShakesCardSaid : Prop := Claim7.holds Tryd.pinned (.plain (OpenSpec.ofChange keccakShakesSpec)) keccakShakesCard

/-- THE SECOND FORM's CARD OF 'drydocklaw05.KeccakSums'. -/
def keccakSumsUptoCard : Claim7 := { stood := { row := keccakSumsUptoRow, standIns := [], harness := (true, "186cdd8f5f646c3aa1fa463cebbeb895a3738ffb85607e80a34f8cca2265a3f2"), looks := true }, kinds := [], alts := [], laidByText := true, laidKinds := [.data], laidTests := true, laidLooks := .later }
def KeccakSumsUptoCardSaid : Prop := Claim7.holds Tryd.pinned (.plain (OpenSpec.upto keccakSumsSpec)) keccakSumsUptoCard

/-- THE SECOND FORM's CARD OF 'drydocklaw05.KeccakParts'. -/
def keccakPartsUptoCard : Claim7 := { stood := { row := keccakPartsUptoRow, standIns := [], harness := (true, "186cdd8f5f646c3aa1fa463cebbeb895a3738ffb85607e80a34f8cca2265a3f2"), looks := true }, kinds := [], alts := [], laidByText := true, laidKinds := [.data], laidTests := true, laidLooks := .later }
def KeccakPartsUptoCardSaid : Prop := Claim7.holds Tryd.pinned (.plain (OpenSpec.upto keccakPartsSpec)) keccakPartsUptoCard

/-- THE SECOND FORM's CARD OF 'drydocklaw05.KeccakTexts'. -/
def keccakTextsUptoCard : Claim7 := { stood := { row := keccakTextsUptoRow, standIns := [], harness := (true, "186cdd8f5f646c3aa1fa463cebbeb895a3738ffb85607e80a34f8cca2265a3f2"), looks := true }, kinds := [], alts := [], laidByText := true, laidKinds := [.data], laidTests := true, laidLooks := .later }
def KeccakTextsUptoCardSaid : Prop := Claim7.holds Tryd.pinned (.plain (OpenSpec.upto keccakTextsSpec)) keccakTextsUptoCard

/-- THE SECOND FORM's CARD OF 'drydocklaw05.KeccakBegins'. -/
def keccakBeginsUptoCard : Claim7 := { stood := { row := keccakBeginsUptoRow, standIns := [], harness := (true, "186cdd8f5f646c3aa1fa463cebbeb895a3738ffb85607e80a34f8cca2265a3f2"), looks := true }, kinds := [], alts := [], laidByText := true, laidKinds := [.data], laidTests := true, laidLooks := .later }
def KeccakBeginsUptoCardSaid : Prop := Claim7.holds Tryd.pinned (.plain (OpenSpec.upto keccakBeginsSpec)) keccakBeginsUptoCard

/-- THE SECOND FORM's CARD OF 'drydocklaw05.KeccakShakes'. -/
def keccakShakesUptoCard : Claim7 := { stood := { row := keccakShakesUptoRow, standIns := [], harness := (true, "186cdd8f5f646c3aa1fa463cebbeb895a3738ffb85607e80a34f8cca2265a3f2"), looks := true }, kinds := [], alts := [], laidByText := true, laidKinds := [.handle, .data], laidTests := true, laidLooks := .later }
def KeccakShakesUptoCardSaid : Prop := Claim7.holds Tryd.pinned (.plain (OpenSpec.upto keccakShakesSpec)) keccakShakesUptoCard
end Rows
end Go.Proofs.YtccacdfkdkiaeaaDoor
