/- AuditNames: the closed facts of the row, one by one. -/
import Derived.Test.YtpgpdmbhlpadmaaGreatRows
import Derived.WalkKit
import Derived.ProofKit
import Derived.OpenShut
set_option linter.unusedSimpArgs false
set_option linter.unusedVariables false
namespace Go.Proofs.YtpgpdmbhlpadmaaGreat.auditNames
open Go.ChangeShapes Go.WideShapes Go.ChangeAt Go.RowKit
theorem jf0 : (Rows.auditNamesRow.wf (OpenSpec.ofChange Rows.auditNamesSpec)) = true := by kernel_rfl
theorem jf1 : (laidOutB Tryz.checked.prog) = true := by kernel_rfl
theorem jf2 : (mapsRowed Tryz.checked.prog) = true := by kernel_rfl
theorem jf3 : ((Rows.auditNamesRow.inPlace == Tryz.checked.prog.inPlace 5)) = true := by kernel_rfl
theorem jf4 : ((Rows.auditNamesRow.unfollowed == Tryz.checked.prog.unfollowed 5)) = true := by kernel_rfl
theorem jf5 : ((Rows.auditNamesRow.recurses == Tryz.checked.prog.recurses 5)) = true := by kernel_rfl
theorem jf6 : ((Rows.auditNamesRow.named == Tryz.checked.prog.varsNamed 5)) = true := by kernel_rfl
theorem jf7 : (Tryz.checked.prog.stopsHeard) = true := by kernel_rfl
theorem jf8 : (Tryz.checked.prog.mayEnter) = true := by kernel_rfl
theorem jf9 : ((Rows.auditNamesRow.lifted == Tryz.checked.prog.liftsFinal)) = true := by kernel_rfl
theorem jf10 : ((Rows.auditNamesRow.plainKeys == Tryz.checked.prog.plainKeys)) = true := by kernel_rfl
theorem closedFacts : joinedFacts Tryz.checked.prog 5 Tryz.f5 Rows.auditNamesSpec Rows.auditNamesRow = true := by
  unfold joinedFacts
  rw [jf0, jf1, jf2, jf3, jf4, jf5, jf6, jf7, jf8, jf9, jf10]
  kernel_rfl
end Go.Proofs.YtpgpdmbhlpadmaaGreat.auditNames
