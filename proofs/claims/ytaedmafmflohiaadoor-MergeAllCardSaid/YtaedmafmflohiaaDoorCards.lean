/-
  DERIVED. GIVEN WITH THE SEED: THE CARDS: each row of YtaedmafmflohiaaDoorRows.lean that lists a variable, with what it lists TIED to the program's text (the seventh form; the later family's looks); each row that meets fmt, with fmt's text TOLD by the authors' own Lean function (tested against real Go, not proved from fmt's source: count such statements apart). THE CARD IS WHAT COUNTS. Prove the row's statement (the work); the ties are given (YtaedmafmflohiaaDoorTie.lean); close each card by the builder's one call (the guide's Derived/Test/ToyasCard.lean, 'card_holds'). Laid BY PROGRAM, IN A SANDBOX (cutbox-door.mjs). By AI agents, Wed Nov 11 2026. No macro, syntax, notation, axiom, sorry.
-/
import Derived.Test.YtaedmafmflohiaaDoorRows
import GoSem.ClaimSeven
namespace Go.Proofs.YtaedmafmflohiaaDoor
namespace Rows

/-- THE TIED CARD OF 'drydocklaw14.MergeAll'. -/
def mergeAllCard : Claim7 := { stood := { row := mergeAllRow, standIns := [], harness := (true, "f88e3b0d8624dcaf42484a94b9ff206ba7a0b2a4f857f7dc4b560fc69993a672"), looks := true }, kinds := [], alts := [], laidByText := true, laidKinds := [.handle], laidTests := true, laidLooks := .later }
def MergeAllCardSaid : Prop := Claim7.holds Tryd.pinned (.plain (OpenSpec.ofChange mergeAllSpec)) mergeAllCard

/-- THE TIED CARD OF 'drydocklaw14.MergeDrops'. -/
def mergeDropsCard : Claim7 := { stood := { row := mergeDropsRow, standIns := [], harness := (true, "f88e3b0d8624dcaf42484a94b9ff206ba7a0b2a4f857f7dc4b560fc69993a672"), looks := true }, kinds := [], alts := [], laidByText := true, laidKinds := [.handle], laidTests := true, laidLooks := .later }
def MergeDropsCardSaid : Prop := Claim7.holds Tryd.pinned (.plain (OpenSpec.ofChange mergeDropsSpec)) mergeDropsCard

/-- THE SECOND FORM's CARD OF 'drydocklaw14.MergeAll'. -/
def mergeAllUptoCard : Claim7 := { stood := { row := mergeAllUptoRow, standIns := [], harness := (true, "f88e3b0d8624dcaf42484a94b9ff206ba7a0b2a4f857f7dc4b560fc69993a672"), looks := true }, kinds := [], alts := [], laidByText := true, laidKinds := [.handle], laidTests := true, laidLooks := .later }
def MergeAllUptoCardSaid : Prop := Claim7.holds Tryd.pinned (.plain (OpenSpec.upto mergeAllSpec)) mergeAllUptoCard

/-- THE SECOND FORM's CARD OF 'drydocklaw14.MergeDrops'. -/
def mergeDropsUptoCard : Claim7 := { stood := { row := mergeDropsUptoRow, standIns := [], harness := (true, "f88e3b0d8624dcaf42484a94b9ff206ba7a0b2a4f857f7dc4b560fc69993a672"), looks := true }, kinds := [], alts := [], laidByText := true, laidKinds := [.handle], laidTests := true, laidLooks := .later }
def MergeDropsUptoCardSaid : Prop := Claim7.holds Tryd.pinned (.plain (OpenSpec.upto mergeDropsSpec)) mergeDropsUptoCard
end Rows
end Go.Proofs.YtaedmafmflohiaaDoor
