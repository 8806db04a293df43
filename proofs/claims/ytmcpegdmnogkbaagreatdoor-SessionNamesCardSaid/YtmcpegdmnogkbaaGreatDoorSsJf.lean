/- SessionNames: the closed facts of the row, one by one. -/
import Derived.Test.YtmcpegdmnogkbaaGreatDoorRows
import Derived.WalkKit
import Derived.ProofKit
import Derived.OpenShut
set_option linter.unusedSimpArgs false
set_option linter.unusedVariables false
namespace Go.Proofs.YtmcpegdmnogkbaaGreatDoor.sessionNames
open Go.ChangeShapes Go.WideShapes Go.ChangeAt Go.RowKit
theorem jf0 : (Rows.sessionNamesRow.wf (OpenSpec.ofChange Rows.sessionNamesSpec)) = true := by kernel_rfl
theorem jf1 : (laidOutB Tryz.checked.prog) = true := by kernel_rfl
theorem jf2 : (mapsRowed Tryz.checked.prog) = true := by kernel_rfl
theorem jf3 : ((Rows.sessionNamesRow.inPlace == Tryz.checked.prog.inPlace 3)) = true := by kernel_rfl
theorem jf4 : ((Rows.sessionNamesRow.unfollowed == Tryz.checked.prog.unfollowed 3)) = true := by kernel_rfl
theorem jf5 : ((Rows.sessionNamesRow.recurses == Tryz.checked.prog.recurses 3)) = true := by kernel_rfl
theorem jf6 : ((Rows.sessionNamesRow.named == Tryz.checked.prog.varsNamed 3)) = true := by kernel_rfl
theorem jf7 : (Tryz.checked.prog.stopsHeard) = true := by kernel_rfl
theorem jf8 : (Tryz.checked.prog.mayEnter) = true := by kernel_rfl
theorem jf9 : ((Rows.sessionNamesRow.lifted == Tryz.checked.prog.liftsFinal)) = true := by kernel_rfl
theorem jf10 : ((Rows.sessionNamesRow.plainKeys == Tryz.checked.prog.plainKeys)) = true := by kernel_rfl
theorem closedFacts : joinedFacts Tryz.checked.prog 3 Tryz.f3 Rows.sessionNamesSpec Rows.sessionNamesRow = true := by
  unfold joinedFacts
  rw [jf0, jf1, jf2, jf3, jf4, jf5, jf6, jf7, jf8, jf9, jf10]
  kernel_rfl
end Go.Proofs.YtmcpegdmnogkbaaGreatDoor.sessionNames
