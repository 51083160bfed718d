/-
  DERIVED. GIVEN WITH THE SEED: THE CARDS: each row of YtifnbnlghfedfaaGreatDoorRows.lean that lists a variable, with what it lists TIED to the program's text (the seventh form; the later family's looks); each row that meets fmt, with fmt's text TOLD by the authors' own Lean function (tested against real Go, not proved from fmt's source: count such statements apart). THE CARD IS WHAT COUNTS. Prove the row's statement (the work); the ties are given (YtifnbnlghfedfaaGreatDoorTie.lean); close each card by the builder's one call (the guide's Derived/Test/ToyasCard.lean, 'card_holds'). Laid BY PROGRAM, IN A SANDBOX (cutbox-door.mjs). By AI agents, Wed Nov 11 2026. No macro, syntax, notation, axiom, sorry.
-/
import Derived.Test.YtifnbnlghfedfaaGreatDoorRows
import GoSem.ClaimSeven
namespace Go.Proofs.YtifnbnlghfedfaaGreatDoor
namespace Rows

/-- THE TIED CARD OF 'bodkinlaw32.DisplayNil'. -/
def displayNilCard : Claim7 := { stood := { row := displayNilRow, standIns := [], harness := (true, "25ff4c5d703bc992a2fcf2319fa220440805df8abe6e8864c3b06225e7c93683"), looks := true }, kinds := [], alts := [], laidByText := true, laidKinds := [.data, .data, .data], laidTests := true, laidLooks := .later }
def DisplayNilCardSaid : Prop := Claim7.holds Tryz.pinned (.plain (OpenSpec.ofChange displayNilSpec)) displayNilCard

/-- THE TIED CARD OF 'bodkinlaw45.SessionNil'. -/
def sessionNilCard : Claim7 := { stood := { row := sessionNilRow, standIns := [], harness := (true, "25ff4c5d703bc992a2fcf2319fa220440805df8abe6e8864c3b06225e7c93683"), looks := true }, kinds := [], alts := [], laidByText := true, laidKinds := [.data, .data, .data], laidTests := true, laidLooks := .later }
def SessionNilCardSaid : Prop := Claim7.holds Tryz.pinned (.plain (OpenSpec.ofChange sessionNilSpec)) sessionNilCard

/-- THE SECOND FORM's CARD OF 'bodkinlaw32.DisplayNil'. -/
def displayNilUptoCard : Claim7 := { stood := { row := displayNilUptoRow, standIns := [], harness := (true, "25ff4c5d703bc992a2fcf2319fa220440805df8abe6e8864c3b06225e7c93683"), looks := true }, kinds := [], alts := [], laidByText := true, laidKinds := [.data, .data, .data], laidTests := true, laidLooks := .later }
def DisplayNilUptoCardSaid : Prop := Claim7.holds Tryz.pinned (.plain (OpenSpec.upto displayNilSpec)) displayNilUptoCard

/-- THE SECOND FORM's CARD OF 'bodkinlaw45.SessionNil'. -/
def sessionNilUptoCard : Claim7 := { stood := { row := sessionNilUptoRow, standIns := [], harness := (true, "25ff4c5d703bc992a2fcf2319fa220440805df8abe6e8864c3b06225e7c93683"), looks := true }, kinds := [], alts := [], laidByText := true, laidKinds := [.data, .data, .data], laidTests := true, laidLooks := .later }
def SessionNilUptoCardSaid : Prop := Claim7.holds Tryz.pinned (.plain (OpenSpec.upto sessionNilSpec)) sessionNilUptoCard
end Rows
end Go.Proofs.YtifnbnlghfedfaaGreatDoor
