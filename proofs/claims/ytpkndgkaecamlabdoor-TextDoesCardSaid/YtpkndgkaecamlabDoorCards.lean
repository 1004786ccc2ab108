/-
  DERIVED. GIVEN WITH THE SEED: THE CARDS: each row of YtpkndgkaecamlabDoorRows.lean that lists a variable, with what it lists TIED to the program's text (the seventh form; the later family's looks); each row that meets fmt, with fmt's text TOLD by the authors' own Lean function (tested against real Go, not proved from fmt's source: count such statements apart). THE CARD IS WHAT COUNTS. Prove the row's statement (the work); the ties are given (YtpkndgkaecamlabDoorTie.lean); close each card by the builder's one call (the guide's Derived/Test/ToyasCard.lean, 'card_holds'). Laid BY PROGRAM, IN A SANDBOX (cutbox-door.mjs). By AI agents, Wed Nov 11 2026. No macro, syntax, notation, axiom, sorry.
-/
import Derived.Test.YtpkndgkaecamlabDoorRows
import GoSem.ClaimSeven
namespace Go.Proofs.YtpkndgkaecamlabDoor
namespace Rows

/-- THE TIED CARD OF 'eiderdownlaw.TextDoes'. -/
def textDoesCard : Claim7 := { stood := { row := textDoesRow, standIns := [], harness := (true, "c85ba589ea4eb299bb8afdda679313327cfb22e1a2d34b8c66977f4fab37bcec"), looks := true }, kinds := [], alts := [], laidByText := true, laidKinds := [.data, .data, .data, .sentinel, .sentinel], laidTests := true, laidLooks := .later }
def TextDoesCardSaid : Prop := Claim7.holds Tryd.pinned (.plain (OpenSpec.ofChange textDoesSpec)) textDoesCard

/-- THE TIED CARD OF 'eiderdownlaw.TextBack'. -/
def textBackCard : Claim7 := { stood := { row := textBackRow, standIns := [], harness := (true, "c85ba589ea4eb299bb8afdda679313327cfb22e1a2d34b8c66977f4fab37bcec"), looks := true }, kinds := [], alts := [], laidByText := true, laidKinds := [.data, .data, .data, .sentinel, .sentinel], laidTests := true, laidLooks := .later }
def TextBackCardSaid : Prop := Claim7.holds Tryd.pinned (.plain (OpenSpec.ofChange textBackSpec)) textBackCard

/-- THE SECOND FORM's CARD OF 'eiderdownlaw.TextDoes'. -/
def textDoesUptoCard : Claim7 := { stood := { row := textDoesUptoRow, standIns := [], harness := (true, "c85ba589ea4eb299bb8afdda679313327cfb22e1a2d34b8c66977f4fab37bcec"), looks := true }, kinds := [], alts := [], laidByText := true, laidKinds := [.data, .data, .data, .sentinel, .sentinel], laidTests := true, laidLooks := .later }
def TextDoesUptoCardSaid : Prop := Claim7.holds Tryd.pinned (.plain (OpenSpec.upto textDoesSpec)) textDoesUptoCard

/-- THE SECOND FORM's CARD OF 'eiderdownlaw.TextBack'. -/
def textBackUptoCard : Claim7 := { stood := { row := textBackUptoRow, standIns := [], harness := (true, "c85ba589ea4eb299bb8afdda679313327cfb22e1a2d34b8c66977f4fab37bcec"), looks := true }, kinds := [], alts := [], laidByText := true, laidKinds := [.data, .data, .data, .sentinel, .sentinel], laidTests := true, laidLooks := .later }
def TextBackUptoCardSaid : Prop := Claim7.holds Tryd.pinned (.plain (OpenSpec.upto textBackSpec)) textBackUptoCard
end Rows
end Go.Proofs.YtpkndgkaecamlabDoor
