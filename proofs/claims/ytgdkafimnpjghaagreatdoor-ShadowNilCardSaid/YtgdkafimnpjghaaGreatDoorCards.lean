/-
  DERIVED. GIVEN WITH THE SEED: THE CARDS: each row of YtgdkafimnpjghaaGreatDoorRows.lean that lists a variable, with what it lists TIED to the program's text (the seventh form; the later family's looks); each row that meets fmt, with fmt's text TOLD by the authors' own Lean function (tested against real Go, not proved from fmt's source: count such statements apart). THE CARD IS WHAT COUNTS. Prove the row's statement (the work); the ties are given (YtgdkafimnpjghaaGreatDoorTie.lean); close each card by the builder's one call (the guide's Derived/Test/ToyasCard.lean, 'card_holds'). Laid BY PROGRAM, IN A SANDBOX (cutbox-door.mjs). By AI agents, Wed Nov 11 2026. No macro, syntax, notation, axiom, sorry.
-/
import Derived.Test.YtgdkafimnpjghaaGreatDoorRows
import GoSem.ClaimSeven
namespace Go.Proofs.YtgdkafimnpjghaaGreatDoor
namespace Rows

/-- THE TIED CARD OF 'tallymanlaw11.ShadowSplits'. -/
def shadowSplitsCard : Claim7 := { stood := { row := shadowSplitsRow, standIns := [], harness := (true, "18ba16e29fd1fd11e836014b15981e761c0529e013476e42fc574b9111c26951"), looks := false }, kinds := [], alts := [], laidByText := true, laidKinds := [.data, .pinned], laidTests := true, laidLooks := .later }
def ShadowSplitsCardSaid : Prop := Claim7.holds Tryz.pinned (.plain (OpenSpec.ofChange shadowSplitsSpec)) shadowSplitsCard

/-- THE TIED CARD OF 'tallymanlaw11.ShadowNames'. -/
def shadowNamesCard : Claim7 := { stood := { row := shadowNamesRow, standIns := [], harness := (true, "18ba16e29fd1fd11e836014b15981e761c0529e013476e42fc574b9111c26951"), looks := false }, kinds := [], alts := [], laidByText := true, laidKinds := [.data, .pinned], laidTests := true, laidLooks := .later }
def ShadowNamesCardSaid : Prop := Claim7.holds Tryz.pinned (.plain (OpenSpec.ofChange shadowNamesSpec)) shadowNamesCard

/-- THE TIED CARD OF 'tallymanlaw11.ShadowHolds'. -/
def shadowHoldsCard : Claim7 := { stood := { row := shadowHoldsRow, standIns := [], harness := (true, "18ba16e29fd1fd11e836014b15981e761c0529e013476e42fc574b9111c26951"), looks := false }, kinds := [], alts := [], laidByText := true, laidKinds := [.data, .pinned], laidTests := true, laidLooks := .later }
def ShadowHoldsCardSaid : Prop := Claim7.holds Tryz.pinned (.plain (OpenSpec.ofChange shadowHoldsSpec)) shadowHoldsCard

/-- THE TIED CARD OF 'tallymanlaw11.ShadowTells'. -/
def shadowTellsCard : Claim7 := { stood := { row := shadowTellsRow, standIns := [], harness := (true, "18ba16e29fd1fd11e836014b15981e761c0529e013476e42fc574b9111c26951"), looks := false }, kinds := [], alts := [], laidByText := true, laidKinds := [.data, .pinned], laidTests := true, laidLooks := .later }
def ShadowTellsCardSaid : Prop := Claim7.holds Tryz.pinned (.plain (OpenSpec.ofChange shadowTellsSpec)) shadowTellsCard

/-- THE TIED CARD OF 'tallymanlaw11.ShadowSafe'. -/
def shadowSafeCard : Claim7 := { stood := { row := shadowSafeRow, standIns := [], harness := (true, "18ba16e29fd1fd11e836014b15981e761c0529e013476e42fc574b9111c26951"), looks := false }, kinds := [], alts := [], laidByText := true, laidKinds := [.data, .pinned], laidTests := true, laidLooks := .later }
def ShadowSafeCardSaid : Prop := Claim7.holds Tryz.pinned (.plain (OpenSpec.ofChange shadowSafeSpec)) shadowSafeCard

/-- THE TIED CARD OF 'tallymanlaw11.ShadowNil'. -/
def shadowNilCard : Claim7 := { stood := { row := shadowNilRow, standIns := [], harness := (true, "18ba16e29fd1fd11e836014b15981e761c0529e013476e42fc574b9111c26951"), looks := false }, kinds := [], alts := [], laidByText := true, laidKinds := [.data, .pinned], laidTests := true, laidLooks := .later }
def ShadowNilCardSaid : Prop := Claim7.holds Tryz.pinned (.plain (OpenSpec.ofChange shadowNilSpec)) shadowNilCard

/-- THE TIED CARD OF 'tallymanlaw11.ShadowScript'. -/
def shadowScriptCard : Claim7 := { stood := { row := shadowScriptRow, standIns := [], harness := (true, "18ba16e29fd1fd11e836014b15981e761c0529e013476e42fc574b9111c26951"), looks := false }, kinds := [], alts := [], laidByText := true, laidKinds := [.data, .pinned], laidTests := true, laidLooks := .later }
def ShadowScriptCardSaid : Prop := Claim7.holds Tryz.pinned (.plain (OpenSpec.ofChange shadowScriptSpec)) shadowScriptCard

/-- THE SECOND FORM's CARD OF 'tallymanlaw11.ShadowSplits'. -/
def shadowSplitsUptoCard : Claim7 := { stood := { row := shadowSplitsUptoRow, standIns := [], harness := (true, "18ba16e29fd1fd11e836014b15981e761c0529e013476e42fc574b9111c26951"), looks := false }, kinds := [], alts := [], laidByText := true, laidKinds := [.data, .pinned], laidTests := true, laidLooks := .later }
def ShadowSplitsUptoCardSaid : Prop := Claim7.holds Tryz.pinned (.plain (OpenSpec.upto shadowSplitsSpec)) shadowSplitsUptoCard

/-- THE SECOND FORM's CARD OF 'tallymanlaw11.ShadowNames'. -/
def shadowNamesUptoCard : Claim7 := { stood := { row := shadowNamesUptoRow, standIns := [], harness := (true, "18ba16e29fd1fd11e836014b15981e761c0529e013476e42fc574b9111c26951"), looks := false }, kinds := [], alts := [], laidByText := true, laidKinds := [.data, .pinned], laidTests := true, laidLooks := .later }
def ShadowNamesUptoCardSaid : Prop := Claim7.holds Tryz.pinned (.plain (OpenSpec.upto shadowNamesSpec)) shadowNamesUptoCard

/-- THE SECOND FORM's CARD OF 'tallymanlaw11.ShadowHolds'. -/
def shadowHoldsUptoCard : Claim7 := { stood := { row := shadowHoldsUptoRow, standIns := [], harness := (true, "18ba16e29fd1fd11e836014b15981e761c0529e013476e42fc574b9111c26951"), looks := false }, kinds := [], alts := [], laidByText := true, laidKinds := [.data, .pinned], laidTests := true, laidLooks := .later }
def ShadowHoldsUptoCardSaid : Prop := Claim7.holds Tryz.pinned (.plain (OpenSpec.upto shadowHoldsSpec)) shadowHoldsUptoCard

/-- THE SECOND FORM's CARD OF 'tallymanlaw11.ShadowTells'. -/
def shadowTellsUptoCard : Claim7 := { stood := { row := shadowTellsUptoRow, standIns := [], harness := (true, "18ba16e29fd1fd11e836014b15981e761c0529e013476e42fc574b9111c26951"), looks := false }, kinds := [], alts := [], laidByText := true, laidKinds := [.data, .pinned], laidTests := true, laidLooks := .later }
def ShadowTellsUptoCardSaid : Prop := Claim7.holds Tryz.pinned (.plain (OpenSpec.upto shadowTellsSpec)) shadowTellsUptoCard

/-- THE SECOND FORM's CARD OF 'tallymanlaw11.ShadowSafe'. -/
def shadowSafeUptoCard : Claim7 := { stood := { row := shadowSafeUptoRow, standIns := [], harness := (true, "18ba16e29fd1fd11e836014b15981e761c0529e013476e42fc574b9111c26951"), looks := false }, kinds := [], alts := [], laidByText := true, laidKinds := [.data, .pinned], laidTests := true, laidLooks := .later }
def ShadowSafeUptoCardSaid : Prop := Claim7.holds Tryz.pinned (.plain (OpenSpec.upto shadowSafeSpec)) shadowSafeUptoCard

/-- THE SECOND FORM's CARD OF 'tallymanlaw11.ShadowNil'. -/
def shadowNilUptoCard : Claim7 := { stood := { row := shadowNilUptoRow, standIns := [], harness := (true, "18ba16e29fd1fd11e836014b15981e761c0529e013476e42fc574b9111c26951"), looks := false }, kinds := [], alts := [], laidByText := true, laidKinds := [.data, .pinned], laidTests := true, laidLooks := .later }
def ShadowNilUptoCardSaid : Prop := Claim7.holds Tryz.pinned (.plain (OpenSpec.upto shadowNilSpec)) shadowNilUptoCard

/-- THE SECOND FORM's CARD OF 'tallymanlaw11.ShadowScript'. -/
def shadowScriptUptoCard : Claim7 := { stood := { row := shadowScriptUptoRow, standIns := [], harness := (true, "18ba16e29fd1fd11e836014b15981e761c0529e013476e42fc574b9111c26951"), looks := false }, kinds := [], alts := [], laidByText := true, laidKinds := [.data, .pinned], laidTests := true, laidLooks := .later }
def ShadowScriptUptoCardSaid : Prop := Claim7.holds Tryz.pinned (.plain (OpenSpec.upto shadowScriptSpec)) shadowScriptUptoCard
end Rows
end Go.Proofs.YtgdkafimnpjghaaGreatDoor
