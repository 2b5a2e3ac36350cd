/-
  DERIVED. GIVEN WITH THE SEED: THE CARDS: each row of YtpflfbenadgknaaDoorRows.lean that lists a variable, with what it lists TIED to the program's text (the seventh form; the later family's looks); each row that meets fmt, with fmt's text TOLD by the authors' own Lean function (tested against real Go, not proved from fmt's source: count such statements apart). THE CARD IS WHAT COUNTS. Prove the row's statement (the work); the ties are given (YtpflfbenadgknaaDoorTie.lean); close each card by the builder's one call (the guide's Derived/Test/ToyasCard.lean, 'card_holds'). Laid BY PROGRAM, IN A SANDBOX (cutbox-door.mjs). By AI agents, Wed Nov 11 2026. No macro, syntax, notation, axiom, sorry.
-/
import Derived.Test.YtpflfbenadgknaaDoorRows
import GoSem.ClaimSeven
namespace Go.Proofs.YtpflfbenadgknaaDoor
namespace Rows

/-- THE TIED CARD OF 'drydocklaw03.HornerJoins'. -/
def hornerJoinsCard : Claim7 := { stood := { row := hornerJoinsRow, standIns := [], harness := (true, "44fb8c1a378357f5f3ffdcc9e6ca747920f2f536d380abea590d2b86e7243098"), looks := true }, kinds := [], alts := [], laidByText := true, laidKinds := [.handle], laidTests := true, laidLooks := .later }
def HornerJoinsCardSaid : Prop := Claim7.holds Tryd.pinned (.plain (OpenSpec.ofChange hornerJoinsSpec)) hornerJoinsCard

/-- THE TIED CARD OF 'drydocklaw03.HornerSeals'. -/
def hornerSealsCard : Claim7 := { stood := { row := hornerSealsRow, standIns := [], harness := (true, "44fb8c1a378357f5f3ffdcc9e6ca747920f2f536d380abea590d2b86e7243098"), looks := true }, kinds := [], alts := [], laidByText := true, laidKinds := [.handle], laidTests := true, laidLooks := .later }
def HornerSealsCardSaid : Prop := Claim7.holds Tryd.pinned (.plain (OpenSpec.ofChange hornerSealsSpec)) hornerSealsCard

/-- THE TIED CARD OF 'drydocklaw03.HornerNear'. -/
def hornerNearCard : Claim7 := { stood := { row := hornerNearRow, standIns := [], harness := (true, "44fb8c1a378357f5f3ffdcc9e6ca747920f2f536d380abea590d2b86e7243098"), looks := true }, kinds := [], alts := [], laidByText := true, laidKinds := [.handle], laidTests := true, laidLooks := .later }
def HornerNearCardSaid : Prop := Claim7.holds Tryd.pinned (.plain (OpenSpec.ofChange hornerNearSpec)) hornerNearCard

/-- THE SECOND FORM's CARD OF 'drydocklaw03.HornerJoins'. -/
def hornerJoinsUptoCard : Claim7 := { stood := { row := hornerJoinsUptoRow, standIns := [], harness := (true, "44fb8c1a378357f5f3ffdcc9e6ca747920f2f536d380abea590d2b86e7243098"), looks := true }, kinds := [], alts := [], laidByText := true, laidKinds := [.handle], laidTests := true, laidLooks := .later }
def HornerJoinsUptoCardSaid : Prop := Claim7.holds Tryd.pinned (.plain (OpenSpec.upto hornerJoinsSpec)) hornerJoinsUptoCard

/-- THE SECOND FORM's CARD OF 'drydocklaw03.HornerSeals'. -/
def hornerSealsUptoCard : Claim7 := { stood := { row := hornerSealsUptoRow, standIns := [], harness := (true, "44fb8c1a378357f5f3ffdcc9e6ca747920f2f536d380abea590d2b86e7243098"), looks := true }, kinds := [], alts := [], laidByText := true, laidKinds := [.handle], laidTests := true, laidLooks := .later }
def HornerSealsUptoCardSaid : Prop := Claim7.holds Tryd.pinned (.plain (OpenSpec.upto hornerSealsSpec)) hornerSealsUptoCard

/-- THE SECOND FORM's CARD OF 'drydocklaw03.HornerNear'. -/
def hornerNearUptoCard : Claim7 := { stood := { row := hornerNearUptoRow, standIns := [], harness := (true, "44fb8c1a378357f5f3ffdcc9e6ca747920f2f536d380abea590d2b86e7243098"), looks := true }, kinds := [], alts := [], laidByText := true, laidKinds := [.handle], laidTests := true, laidLooks := .later }
def HornerNearUptoCardSaid : Prop := Claim7.holds Tryd.pinned (.plain (OpenSpec.upto hornerNearSpec)) hornerNearUptoCard
end Rows
end Go.Proofs.YtpflfbenadgknaaDoor
