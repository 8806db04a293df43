/- StoreNames: the closed facts of the card, one by one. -/
import Derived.Test.YtbiehdiklgdhnaaGreatDoorCards
import Derived.Test.YtbiehdiklgdhnaaGreatDoorTie
import Derived.WalkKit
import Derived.ProofKit
import Derived.OpenShut
import Derived.LaidMore
import Derived.Lay
import Derived.SevenTiedAt
import Derived.Stop.Joined
set_option linter.unusedSimpArgs false
set_option linter.unusedVariables false
namespace Go.Proofs.YtbiehdiklgdhnaaGreatDoor.storeNames
open Go.ChangeShapes Go.WideShapes Go.ChangeAt Go.RowKit
theorem cfWf : Rows.storeNamesRow.wfByText (OpenSpec.ofChange Rows.storeNamesSpec) = true := by kernel_rfl
theorem cfMain : Tryz.pinned.checked.prog.mainIs = some (true, "380580fd8c7feb2a14723d925a2b7eda7de3738c67125dcd463ba86244bcc4dd".toList) := by kernel_rfl
theorem cfNamed : Tryz.prog.funcNamed "tallyman/tallymanlaw25.StoreNames" = some 3 := by kernel_rfl
theorem cfLooks : false = Tryz.pinned.checked.prog.looks [] := by kernel_rfl
theorem cfGoes : false = Rows.storeNamesRow.goesBy Tryz.pinned.checked.prog := by kernel_rfl
end Go.Proofs.YtbiehdiklgdhnaaGreatDoor.storeNames
