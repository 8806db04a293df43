/- WorldNames: the closed facts of the row, one by one. -/
import Derived.Test.YtmcpegdmnogkbaaGreatDoorRows
import Derived.WalkKit
import Derived.ProofKit
import Derived.OpenShut
set_option linter.unusedSimpArgs false
set_option linter.unusedVariables false
namespace Go.Proofs.YtmcpegdmnogkbaaGreatDoor.worldNames
open Go.ChangeShapes Go.WideShapes Go.ChangeAt Go.RowKit
theorem jf0 : (Rows.worldNamesRow.wf (OpenSpec.ofChange Rows.worldNamesSpec)) = true := by kernel_rfl
theorem jf1 : (laidOutB Tryz.checked.prog) = true := by kernel_rfl
theorem jf2 : (mapsRowed Tryz.checked.prog) = true := by kernel_rfl
theorem jf3 : ((Rows.worldNamesRow.inPlace == Tryz.checked.prog.inPlace 4)) = true := by kernel_rfl
theorem jf4 : ((Rows.worldNamesRow.unfollowed == Tryz.checked.prog.unfollowed 4)) = true := by kernel_rfl
theorem jf5 : ((Rows.worldNamesRow.recurses == Tryz.checked.prog.recurses 4)) = true := by kernel_rfl
theorem jf6 : ((Rows.worldNamesRow.named == Tryz.checked.prog.varsNamed 4)) = true := by kernel_rfl
theorem jf7 : (Tryz.checked.prog.stopsHeard) = true := by kernel_rfl
theorem jf8 : (Tryz.checked.prog.mayEnter) = true := by kernel_rfl
theorem jf9 : ((Rows.worldNamesRow.lifted == Tryz.checked.prog.liftsFinal)) = true := by kernel_rfl
theorem jf10 : ((Rows.worldNamesRow.plainKeys == Tryz.checked.prog.plainKeys)) = true := by kernel_rfl
theorem closedFacts : joinedFacts Tryz.checked.prog 4 Tryz.f4 Rows.worldNamesSpec Rows.worldNamesRow = true := by
  unfold joinedFacts
  rw [jf0, jf1, jf2, jf3, jf4, jf5, jf6, jf7, jf8, jf9, jf10]
  kernel_rfl
end Go.Proofs.YtmcpegdmnogkbaaGreatDoor.worldNames
