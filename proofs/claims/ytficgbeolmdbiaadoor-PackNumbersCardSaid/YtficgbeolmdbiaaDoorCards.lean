/-
  DERIVED. GIVEN WITH THE SEED: THE CARDS: each row of YtficgbeolmdbiaaDoorRows.lean that lists a variable, with what it lists TIED to the program's text (the seventh form; the later family's looks); each row that meets fmt, with fmt's text TOLD by the authors' own Lean function (tested against real Go, not proved from fmt's source: count such statements apart). THE CARD IS WHAT COUNTS. Prove the row's statement (the work); the ties are given (YtficgbeolmdbiaaDoorTie.lean); close each card by the builder's one call (the guide's Derived/Test/ToyasCard.lean, 'card_holds'). Laid BY PROGRAM, IN A SANDBOX (cutbox-door.mjs). By AI agents, Wed Nov 11 2026. No macro, syntax, notation, axiom, sorry.
-/
import Derived.Test.YtficgbeolmdbiaaDoorRows
import GoSem.ClaimSeven
namespace Go.Proofs.YtficgbeolmdbiaaDoor
namespace Rows

/-- THE TIED CARD OF 'drydocklaw02.PackNumbers'. -/
def packNumbersCard : Claim7 := { stood := { row := packNumbersRow, standIns := [], harness := (true, "ed46617dbd0c0f6697dcb79bd8b3a7db0e7da0518bdd5f7fef2fb31032ffb423"), looks := true }, kinds := [], alts := [], laidByText := true, laidKinds := [.handle], laidTests := true, laidLooks := .later }
def PackNumbersCardSaid : Prop := Claim7.holds Tryd.pinned (.plain (OpenSpec.ofChange packNumbersSpec)) packNumbersCard

/-- THE TIED CARD OF 'drydocklaw02.PackShort'. -/
def packShortCard : Claim7 := { stood := { row := packShortRow, standIns := [], harness := (true, "ed46617dbd0c0f6697dcb79bd8b3a7db0e7da0518bdd5f7fef2fb31032ffb423"), looks := true }, kinds := [], alts := [], laidByText := true, laidKinds := [.handle], laidTests := true, laidLooks := .later }
def PackShortCardSaid : Prop := Claim7.holds Tryd.pinned (.plain (OpenSpec.ofChange packShortSpec)) packShortCard

/-- THE TIED CARD OF 'drydocklaw02.PackAsks'. -/
def packAsksCard : Claim7 := { stood := { row := packAsksRow, standIns := [], harness := (true, "ed46617dbd0c0f6697dcb79bd8b3a7db0e7da0518bdd5f7fef2fb31032ffb423"), looks := true }, kinds := [], alts := [], laidByText := true, laidKinds := [.handle], laidTests := true, laidLooks := .later }
def PackAsksCardSaid : Prop := Claim7.holds Tryd.pinned (.plain (OpenSpec.ofChange packAsksSpec)) packAsksCard

/-- THE SECOND FORM's CARD OF 'drydocklaw02.PackNumbers'. -/
def packNumbersUptoCard : Claim7 := { stood := { row := packNumbersUptoRow, standIns := [], harness := (true, "ed46617dbd0c0f6697dcb79bd8b3a7db0e7da0518bdd5f7fef2fb31032ffb423"), looks := true }, kinds := [], alts := [], laidByText := true, laidKinds := [.handle], laidTests := true, laidLooks := .later }
def PackNumbersUptoCardSaid : Prop := Claim7.holds Tryd.pinned (.plain (OpenSpec.upto packNumbersSpec)) packNumbersUptoCard

/-- THE SECOND FORM's CARD OF 'drydocklaw02.PackShort'. -/
def packShortUptoCard : Claim7 := { stood := { row := packShortUptoRow, standIns := [], harness := (true, "ed46617dbd0c0f6697dcb79bd8b3a7db0e7da0518bdd5f7fef2fb31032ffb423"), looks := true }, kinds := [], alts := [], laidByText := true, laidKinds := [.handle], laidTests := true, laidLooks := .later }
def PackShortUptoCardSaid : Prop := Claim7.holds Tryd.pinned (.plain (OpenSpec.upto packShortSpec)) packShortUptoCard

/-- THE SECOND FORM's CARD OF 'drydocklaw02.PackAsks'. -/
def packAsksUptoCard : Claim7 := { stood := { row := packAsksUptoRow, standIns := [], harness := (true, "ed46617dbd0c0f6697dcb79bd8b3a7db0e7da0518bdd5f7fef2fb31032ffb423"), looks := true }, kinds := [], alts := [], laidByText := true, laidKinds := [.handle], laidTests := true, laidLooks := .later }
def PackAsksUptoCardSaid : Prop := Claim7.holds Tryd.pinned (.plain (OpenSpec.upto packAsksSpec)) packAsksUptoCard
end Rows
end Go.Proofs.YtficgbeolmdbiaaDoor
