/-
  DERIVED. GIVEN WITH THE SEED: THE CARDS: each row of YtmcpegdmnogkbaaGreatDoorRows.lean that lists a variable, with what it lists TIED to the program's text (the seventh form; the later family's looks); each row that meets fmt, with fmt's text TOLD by the authors' own Lean function (tested against real Go, not proved from fmt's source: count such statements apart). THE CARD IS WHAT COUNTS. Prove the row's statement (the work); the ties are given (YtmcpegdmnogkbaaGreatDoorTie.lean); close each card by the builder's one call (the guide's Derived/Test/ToyasCard.lean, 'card_holds'). Laid BY PROGRAM, IN A SANDBOX (cutbox-door.mjs). By AI agents, Wed Nov 11 2026. No macro, syntax, notation, axiom, sorry.
-/
import Derived.Test.YtmcpegdmnogkbaaGreatDoorRows
import GoSem.ClaimSeven
namespace Go.Proofs.YtmcpegdmnogkbaaGreatDoor
namespace Rows

/-- THE TIED CARD OF 'tallymanlaw28.SessionNames'. -/
def sessionNamesCard : Claim7 := { stood := { row := sessionNamesRow, standIns := [], harness := (true, "bd8e25ba1dcbc163487bcfc43f87daf25c4535f1f927cfcf6edfd91f44c5d21e"), looks := true }, kinds := [], alts := [], laidByText := true, laidKinds := [.data, .pinned], laidTests := true, laidLooks := .later }
def SessionNamesCardSaid : Prop := Claim7.holds Tryz.pinned (.plain (OpenSpec.ofChange sessionNamesSpec)) sessionNamesCard

/-- THE TIED CARD OF 'tallymanlaw29.WorldNames'. -/
def worldNamesCard : Claim7 := { stood := { row := worldNamesRow, standIns := [], harness := (true, "bd8e25ba1dcbc163487bcfc43f87daf25c4535f1f927cfcf6edfd91f44c5d21e"), looks := true }, kinds := [], alts := [], laidByText := true, laidKinds := [.data, .pinned], laidTests := true, laidLooks := .later }
def WorldNamesCardSaid : Prop := Claim7.holds Tryz.pinned (.plain (OpenSpec.ofChange worldNamesSpec)) worldNamesCard

/-- THE SECOND FORM's CARD OF 'tallymanlaw28.SessionNames'. -/
def sessionNamesUptoCard : Claim7 := { stood := { row := sessionNamesUptoRow, standIns := [], harness := (true, "bd8e25ba1dcbc163487bcfc43f87daf25c4535f1f927cfcf6edfd91f44c5d21e"), looks := true }, kinds := [], alts := [], laidByText := true, laidKinds := [.data, .pinned], laidTests := true, laidLooks := .later }
def SessionNamesUptoCardSaid : Prop := Claim7.holds Tryz.pinned (.plain (OpenSpec.upto sessionNamesSpec)) sessionNamesUptoCard

/-- THE SECOND FORM's CARD OF 'tallymanlaw29.WorldNames'. -/
def worldNamesUptoCard : Claim7 := { stood := { row := worldNamesUptoRow, standIns := [], harness := (true, "bd8e25ba1dcbc163487bcfc43f87daf25c4535f1f927cfcf6edfd91f44c5d21e"), looks := true }, kinds := [], alts := [], laidByText := true, laidKinds := [.data, .pinned], laidTests := true, laidLooks := .later }
def WorldNamesUptoCardSaid : Prop := Claim7.holds Tryz.pinned (.plain (OpenSpec.upto worldNamesSpec)) worldNamesUptoCard
end Rows
end Go.Proofs.YtmcpegdmnogkbaaGreatDoor
